/- Walks of VariablePolarity, of the program: the walk that appends to a variable of its own. -/
import Derived.Test.YtbpkogknmhklbaaPolTwo
import Derived.Test.YtbpkogknmhklbaaPartsK
import Derived.Maps.AppendAt
namespace Go.Proofs.Ytbpkogknmhklbaa
open Go.RowKit

def polF (ob wb : Nat) : Value := .func (Fn.func 99) #[] #[.pointer (some ⟨ob, 0, none⟩), .pointer (some ⟨wb, 0, none⟩)]

/-- What the two variables hold: the list at ob, the function at wb. -/
structure PolSt (K ob wb : Nat) (w : World) (vo : Value) (xs : List Int) : Prop where
  oc : w.cell? ⟨ob, 0, none⟩ = some vo
  fr : w.frozen? ⟨ob, 0, none⟩ = false
  wc : w.cell? ⟨wb, 0, none⟩ = some (polF ob wb)
  own : w.ownsRow K 2 1 vo xs.length (xs.map (Value.int .i64))
  ap : ∀ k, vo.ownBlock = some k → k ≠ ob ∧ k ≠ wb
  ne : ob ≠ wb
  kob : K ≤ ob
  ks : K ≤ w.heap.size

/-- What a part of the walk may have turned. -/
structure PolStep (K ob : Nat) (w : World) (vo : Value) (w' : World) (vo' : Value) : Prop where
  bel : Below K w w'
  keep : ∀ b, b < w.heap.size → b ≠ ob → vo.ownBlock ≠ some b → w'.heap[b]? = w.heap[b]?
  new : ∀ k, vo'.ownBlock = some k → vo.ownBlock = some k ∨ w.heap.size ≤ k

theorem PolStep.refl (K ob : Nat) (w : World) (vo : Value) : PolStep K ob w vo w vo := ⟨Below.refl _ _, fun _ _ _ _ => rfl, fun _ h => .inl h⟩
theorem PolStep.trans {K ob : Nat} {w w1 w2 : World} {v v1 v2 : Value} (h : PolStep K ob w v w1 v1) (g : PolStep K ob w1 v1 w2 v2) : PolStep K ob w v w2 v2 := by
  have hs := h.bel.size
  refine ⟨h.bel.trans g.bel, fun b hb h1 h2 => (g.keep b (by omega) h1 fun h3 => ?_).trans (h.keep b hb h1 h2), fun k hk => ?_⟩
  · rcases h.new b h3 with h4 | h4
    · exact h2 h4
    · omega
  · rcases g.new k hk with h1 | h1
    · exact h.new k h1
    · exact .inr (by omega)
theorem PolStep.below {K ob : Nat} {w w' : World} {v : Value} (h : Below w.heap.size w w') (hk : K ≤ w.heap.size) : PolStep K ob w v w' v :=
  ⟨h.mono hk, fun b hb _ _ => h.block b hb, fun _ h => .inl h⟩
theorem PolStep.cell {K ob : Nat} {w w' : World} {v v' : Value} {b o : Nat} {u : Value} (h : PolStep K ob w v w' v') (hc : w.cell? ⟨b, o, none⟩ = some u) (h1 : b ≠ ob) (h2 : v.ownBlock ≠ some b) : w'.cell? ⟨b, o, none⟩ = some u :=
  (World.cell?_of_block (h.keep b (World.block_lt_of_cell? w _ hc) h1 h2)).trans hc
theorem PolSt.below {K ob wb : Nat} {w w' : World} {vo : Value} {xs : List Int} (h : PolSt K ob wb w vo xs) (hb : Below w.heap.size w w') : PolSt K ob wb w' vo xs :=
  ⟨keep_cell hb h.oc, (hb.frozen (p := ⟨ob, 0, none⟩) (World.block_lt_of_cell? w _ h.oc)).trans h.fr, keep_cell hb h.wc, own_below h.own hb (Nat.le_refl _), h.ap, h.ne, h.kob, Nat.le_trans h.ks hb.size⟩

/-- One element more, and the store. -/
theorem PolSt.push {K ob wb : Nat} {w w1 : World} {vo v1 : Value} {xs : List Int} {s : Int} (h : PolSt K ob wb w vo xs) (ho : w1.ownsRow K 2 1 v1 (xs.length + 1) (xs.map (Value.int .i64) ++ [.int .i64 s])) (hg : w.grownBy w1 vo.ownBlock)
    (hn : v1.ownBlock = vo.ownBlock ∨ v1.ownBlock = some w.heap.size) : PolSt K ob wb (w1.setCell ⟨ob, 0, none⟩ v1) v1 (xs ++ [s]) ∧ PolStep K ob w vo (w1.setCell ⟨ob, 0, none⟩ v1) v1 := by
  have lo := World.block_lt_of_cell? w _ h.oc
  have lw := World.block_lt_of_cell? w _ h.wc
  have hs := hg.size
  have no : some ob ≠ vo.ownBlock := fun e => (h.ap ob e.symm).1 rfl
  have nw : some wb ≠ vo.ownBlock := fun e => (h.ap wb e.symm).2 rfl
  have ho1 : w1.cell? ⟨ob, 0, none⟩ = some vo := (World.cell?_of_block (hg.block ob lo no)).trans h.oc
  have hw1 : w1.cell? ⟨wb, 0, none⟩ = some (polF ob wb) := (World.cell?_of_block (hg.block wb lw nw)).trans h.wc
  have hf1 : w1.frozen? ⟨ob, 0, none⟩ = false := (World.frozen?_of_block (hg.block ob lo no)).trans h.fr
  have hap : ∀ k, v1.ownBlock = some k → k ≠ ob ∧ k ≠ wb := fun k hk => by
    rcases hn with hn | hn
    · exact h.ap k (hn ▸ hk)
    · rw [hn] at hk
      obtain rfl : w.heap.size = k := by simpa using hk
      exact ⟨by simp only at lo; omega, by simp only at lw; omega⟩
  refine ⟨⟨by apply World.cell?_setCell_same; exact ho1, ?_, ?_, ?_, hap, h.ne, h.kob, ?_⟩, ⟨?_, ?_, ?_⟩⟩
  · rw [World.frozen?_setCell]; exact hf1
  · rw [World.cell?_setCell_far _ _ _ _ h.ne]; exact hw1
  · have e : (xs ++ [s]).length = xs.length + 1 := by simp
    rw [e, List.map_append]
    refine World.ownsRow.kept (row := some ob) ho ⟨rfl, rfl, rfl, by simp [World.setCell], fun j _ hne => Below.heap_setCell _ _ _ _ (by simpa using hne)⟩ ?_
    cases hv : v1.ownBlock with
    | none => exact .inl rfl
    | some k => right; intro hc; exact (hap k hv).1 (by simpa using hc)
  · have := h.ks; simp [World.setCell]; omega
  · exact ((Below.refl K w).grown hg h.ks (fun k hk => (h.own.lt k hk).1)).setCell h.kob v1
  · intro b hb h1 h2
    rw [Below.heap_setCell _ _ _ _ h1]
    exact hg.block b hb (fun e => h2 e.symm)
  · intro k hk
    rcases hn with hn | hn
    · exact .inl (hn ▸ hk)
    · rw [hn] at hk
      exact .inr (by have : w.heap.size = k := by simpa using hk
                     omega)
theorem PolSt.seen {K ob wb : Nat} {w w1 : World} {vo : Value} {xs : List Int} (h : PolSt K ob wb w vo xs) (hg : w.grownBy w1 vo.ownBlock) : w1.cell? ⟨ob, 0, none⟩ = some vo ∧ w1.frozen? ⟨ob, 0, none⟩ = false := by
  have lo := World.block_lt_of_cell? w _ h.oc
  have no : some ob ≠ vo.ownBlock := fun e => (h.ap ob e.symm).1 rfl
  exact ⟨(World.cell?_of_block (hg.block ob lo no)).trans h.oc, (World.frozen?_of_block (hg.block ob lo no)).trans h.fr⟩

set_option maxHeartbeats 4000000 in
theorem polWalk_any (K ob wb : Nat) (t : Tr) : ∀ (s : Int) (v vo : Value) (xs : List Int) (w : World), (s = 1 ∨ s = -1) → okT t → Nodes w v (flat t) → inK K v → PolSt K ob wb w vo xs → xs.length + (flat t).length ≤ 1000000 →
    Calls Try.prog 99 #[v, .int .i64 s, .pointer (some ⟨ob, 0, none⟩), .pointer (some ⟨wb, 0, none⟩)] w fun e w' => (∃ u, e = .returned u) ∧ ∃ vo', PolSt K ob wb w' vo' (xs ++ polT s t) ∧ PolStep K ob w vo w' vo' := by
  induction t with
  | nil => intro s v vo xs w _ h; exact h.elim
  | node b0 o0 n l r ihl ihr =>
    intro s v vo xs w hs ht h hin hst hn
    have IHL := Lib.hid ihl
    have IHR := Lib.hid ihr
    clear ihl ihr
    have hv := Lib.hid h
    have hinh := Lib.hid hin
    obtain ⟨x, y⟩ := n
    have hlen : (flat (.node b0 o0 (x, y) l r)).length = 1 + (flat l).length + (flat r).length := by simp [flat]; omega
    obtain ⟨c, b, o, rfl, hc, hcm, hcell⟩ := h.raw (by omega)
    have hbK : b < K := hin
    obtain ⟨hc0, hc1⟩ := node_head hcell.out
    clear h hcm hin hc1 hcell
    simp only at hc0
    have hp0 : 0 < (flat (.node b0 o0 (x, y) l r)).length := by omega
    obtain ⟨i0, hi, hz0, hz1, hz2⟩ := info_parts info_i64
    have hba := Lib.hid ((Below.refl w.heap.size w).alloc (Nat.le_refl _) (.cells #[.int .i64 s] 2))
    have hst0 := Lib.hid (hst.below hba.out)
    have hstep0 := Lib.hid (PolStep.below (ob := ob) (v := vo) hba.out hst.ks)
    have hks := hst0.out.ks
    have hoc := hst.oc
    have hbK := Lib.hid hbK
    have hns : -s = 1 ∨ -s = -1 := by omega
    have hws : IntKind.i64.wrap (-s) = -s := by rcases hs with rfl | rfl <;> decide
    have hsH := Lib.hid hs
    have hnsH := Lib.hid hns
    have hnew := Lib.hid (cell_one_new w (.int .i64 s) 2)
    have hxl : xs.length ≤ 1000000 := by omega
    clear hst hs hns
    have hnode := Lib.hid (fun W (hb : Below K w W) => nodes_inK hv.out hinh.out hb)
    have hhead := Lib.hid (fun W (hb : Below K w W) => (hb.cell (p := ⟨b, o, none⟩) hbK.out).trans hc0)
    rcases ht with ⟨h1, rfl, rfl⟩ | ⟨h1, h2, rfl⟩ | ⟨h1, h2, h3⟩
    · simp only at h1
      have hP := Lib.hid (show polT s (.node b0 o0 (x, y) .nil .nil) = [s] from rfl)
      have hpa := Lib.hid (fun W (hb : Below K w W) => parts_leaf _ (x, y) W (hnode.out W hb) h1)
      clear hlen hn
      generalize (flat (.node b0 o0 (x, y) .nil .nil)).length = m at *
      go_enter Try.func99, Try.ntmps99
      go_wp2_with (at_builtin; refine wpList_append_own_at _ rfl _ _ 33 rfl K 2 i0 (.int .i64 0) 1 8 Try.underlying33 hi hz0 hz1 hz2 rfl (by decide) vo xs.length (xs.map (Value.int .i64)) rfl hst0.out.own ⟨w.heap.size, 0, none⟩ 1 1 [.int .i64 s] rfl rfl hnew.out (ints_oneCell .i64 [s]) (by unfold maxLen; omega) (by omega) hks ?_; intro v1 w1 hown1 hgrow1 _ hblk1; obtain ⟨g1, k1, rfl, _⟩ := own_slice hown1 (by omega); have hoc1 := (hst0.out.seen hgrow1).1; have hfr1 := (hst0.out.seen hgrow1).2; have hown1 := Lib.hid hown1; have hgrow1 := Lib.hid hgrow1; have hblk1 := Lib.hid hblk1)
      obtain ⟨hst1, hstep1⟩ := hst0.out.push hown1.out hgrow1.out hblk1.out
      have hst1 := Lib.hid hst1
      have hstep1 := Lib.hid (hstep0.out.trans hstep1)
      clear hown1 hgrow1 hblk1 hoc1 hfr1 hoc hnew hst0 hstep0
      generalize w1.setCell ⟨ob, 0, none⟩ (Value.slice (some ⟨g1, 0, none⟩) (xs.length + 1) k1) = W1 at *
      generalize Value.slice (some ⟨g1, 0, none⟩) (xs.length + 1) k1 = v1 at *
      refine (hpa.out _ hstep1.out.bel).mono ?_
      rintro e w' ⟨rfl, rfl⟩
      go_wp2_with fail
      go_loopw [15] (fun i wr => i = .int .i64 0 ∧ wr = W1) (fun _ _ => 0)
      case atStart => exact ⟨rfl, rfl⟩
      case round =>
        obtain ⟨rfl, rfl⟩ := hrel
        go_wp2_with fail
        refine bodyPost_end (results_none rfl _ _ _) rfl ?_
        exact ⟨⟨_, rfl⟩, v1, by rw [hP.out]; exact hst1.out, hstep1.out⟩
    · simp only at h1
      have hx4 : (x == 4) = false := by rw [beq_eq_false_iff_ne]; rintro rfl; simp [ar] at h1
      have hP := Lib.hid (show polT s (.node b0 o0 (x, y) l .nil) = [s] ++ polT s l by simp [polT, show x ≠ 4 by rintro rfl; simp [ar] at h1])
      have hpa := Lib.hid (fun W (hb : Below K w W) => parts_unK K _ (x, y) l W (show Nodes W _ ((x, y) :: flat l) by simpa [flat] using hnode.out W hb) hinh.out h1 h2 (by omega))
      have hIH := Lib.hid (fun v vo xs w => IHL.out s v vo xs w hsH.out h2)
      have hxb : xs.length + (flat l).length + 1 ≤ 1000000 := by omega
      clear hlen hn
      generalize (flat (.node b0 o0 (x, y) l .nil)).length = m at *
      go_enter Try.func99, Try.ntmps99
      go_wp2_with (at_builtin; refine wpList_append_own_at _ rfl _ _ 33 rfl K 2 i0 (.int .i64 0) 1 8 Try.underlying33 hi hz0 hz1 hz2 rfl (by decide) vo xs.length (xs.map (Value.int .i64)) rfl hst0.out.own ⟨w.heap.size, 0, none⟩ 1 1 [.int .i64 s] rfl rfl hnew.out (ints_oneCell .i64 [s]) (by unfold maxLen; omega) (by omega) hks ?_; intro v1 w1 hown1 hgrow1 _ hblk1; obtain ⟨g1, k1, rfl, _⟩ := own_slice hown1 (by omega); have hoc1 := (hst0.out.seen hgrow1).1; have hfr1 := (hst0.out.seen hgrow1).2; have hown1 := Lib.hid hown1; have hgrow1 := Lib.hid hgrow1; have hblk1 := Lib.hid hblk1)
      obtain ⟨hst1, hstep1⟩ := hst0.out.push hown1.out hgrow1.out hblk1.out
      have hst1 := Lib.hid hst1
      have hstep1 := Lib.hid (hstep0.out.trans hstep1)
      clear hown1 hgrow1 hblk1 hoc1 hfr1 hoc hnew hst0 hstep0
      generalize w1.setCell ⟨ob, 0, none⟩ (Value.slice (some ⟨g1, 0, none⟩) (xs.length + 1) k1) = W1 at *
      generalize Value.slice (some ⟨g1, 0, none⟩) (xs.length + 1) k1 = v1 at *
      refine (hpa.out _ hstep1.out.bel).mono ?_
      rintro e w2 ⟨vl, rfl, hcl, hnl, hkl, b2, hsz2⟩
      obtain ⟨a1, c1, rfl⟩ := hnl.shape
      have hkl := Lib.hid hkl
      have hnl := Lib.hid hnl
      have hst2 := Lib.hid (hst1.out.below b2)
      have hstep2 := Lib.hid (hstep1.out.trans (PolStep.below (ob := ob) (v := v1) b2 hst1.out.ks))
      have hown2 := Lib.hid (show v1.ownBlock ≠ some W1.heap.size by intro e; have := (hst1.out.own.lt _ e).2; omega)
      have hobP := Lib.hid (show W1.heap.size ≠ ob by have := World.block_lt_of_cell? W1 _ hst1.out.oc; simp only at this; omega)
      clear hst1 hstep1 b2 hsz2
      generalize W1.heap.size = P at *
      go_wp2_with fail
      go_loopw [15] (fun i wr => ∃ vo' : Value, ((i = .int .i64 0 ∧ Hid (PolSt K ob wb wr vo' (xs ++ [s])) ∧ wr.cell? ⟨P, 0, none⟩ = some (.slice a1 (flat l).length c1) ∧ Hid (Nodes wr (.slice a1 (flat l).length c1) (flat l))) ∨ (i = .int .i64 1 ∧ Hid (PolSt K ob wb wr vo' (xs ++ ([s] ++ polT s l))))) ∧ Hid (PolStep K ob w vo wr vo')) (fun i _ => 1 - (intOf i).toNat)
      case atStart => exact ⟨v1, .inl ⟨rfl, hst2.out, hcl, hnl.out⟩, hstep2.out⟩
      case round =>
        clear hst2 hstep2 hcl hnl hc0
        obtain ⟨vo', hrel | hrel, hstep⟩ := hrel
        · obtain ⟨rfl, hst, hcl, hnl⟩ := hrel
          have hc0 := hhead.out _ hstep.out.bel
          have hwc := hst.out.wc
          unfold polF at hwc
          go_wp2_with fail
          refine (hIH.out _ vo' _ _ hnl.out hkl.out hst.out (by simp; omega)).mono ?_
          rintro e w3 ⟨⟨u, rfl⟩, vo3, hst3, hstep3⟩
          have hst3 := Lib.hid hst3
          have hstep3 := Lib.hid hstep3
          go_wp2_with fail
          go_roundw
          case rel => exact ⟨vo3, .inr ⟨rfl, by rw [List.append_assoc] at hst3; exact hst3.out⟩, hstep.out.trans hstep3.out⟩
          case measure => simp [intOf]
        · obtain ⟨rfl, hst⟩ := hrel
          go_wp2_with fail
          refine bodyPost_end (results_none rfl _ _ _) rfl ?_
          exact ⟨⟨_, rfl⟩, vo', by rw [hP.out]; exact hst.out, hstep.out⟩
    · simp only at h1
      have hnn : (flat l).length + (flat r).length ≤ 1000000 := by omega
      have hP := Lib.hid (show polT s (.node b0 o0 (x, y) l r) = ([s] ++ polT (if x = 4 then -s else s) l) ++ polT s r by simp [polT])
      have hpa := Lib.hid (fun W (hb : Below K w W) => parts_binK K _ (x, y) l r W (hnode.out W hb) hinh.out h1 h2 h3 hnn)
      have hpl := Lib.hid (polT_len l)
      have hIHR := Lib.hid (fun v vo xs w => IHR.out s v vo xs w hsH.out h3)
      have hxs : (x = 4 ∧ (if x = 4 then -s else s) = -s) ∨ ((x == 4) = false ∧ (if x = 4 then -s else s) = s) := by
        by_cases h : x = 4
        · exact .inl ⟨h, by rw [if_pos h]⟩
        · exact .inr ⟨by rw [beq_eq_false_iff_ne]; exact h, by rw [if_neg h]⟩
      have hxb : xs.length + (flat l).length + (flat r).length + 1 ≤ 1000000 := by omega
      clear hlen hn
      generalize (flat (.node b0 o0 (x, y) l r)).length = m at *
      rcases hxs with ⟨rfl, hi4⟩ | ⟨hx4, hi4⟩
      · have hIH := Lib.hid (fun v vo xs w => IHL.out (-s) v vo xs w hnsH.out h2)
        have hpl := Lib.hid (hpl.out (-s))
        rw [hi4] at hP
        clear hi4
        generalize polT (-s) l = L at *
        go_enter Try.func99, Try.ntmps99
        go_wp2_with (at_builtin; refine wpList_append_own_at _ rfl _ _ 33 rfl K 2 i0 (.int .i64 0) 1 8 Try.underlying33 hi hz0 hz1 hz2 rfl (by decide) vo xs.length (xs.map (Value.int .i64)) rfl hst0.out.own ⟨w.heap.size, 0, none⟩ 1 1 [.int .i64 s] rfl rfl hnew.out (ints_oneCell .i64 [s]) (by unfold maxLen; omega) (by omega) hks ?_; intro v1 w1 hown1 hgrow1 _ hblk1; obtain ⟨g1, k1, rfl, _⟩ := own_slice hown1 (by omega); have hoc1 := (hst0.out.seen hgrow1).1; have hfr1 := (hst0.out.seen hgrow1).2; have hown1 := Lib.hid hown1; have hgrow1 := Lib.hid hgrow1; have hblk1 := Lib.hid hblk1)
        obtain ⟨hst1, hstep1⟩ := hst0.out.push hown1.out hgrow1.out hblk1.out
        have hst1 := Lib.hid hst1
        have hstep1 := Lib.hid (hstep0.out.trans hstep1)
        clear hown1 hgrow1 hblk1 hoc1 hfr1 hoc hnew hst0 hstep0
        generalize w1.setCell ⟨ob, 0, none⟩ (Value.slice (some ⟨g1, 0, none⟩) (xs.length + 1) k1) = W1 at *
        generalize Value.slice (some ⟨g1, 0, none⟩) (xs.length + 1) k1 = v1 at *
        refine (hpa.out _ hstep1.out.bel).mono ?_
        rintro e w2 ⟨vl, vr, rfl, hcl, hcr, hnl, hkl, hnr, hkr, b2, hsz2⟩
        obtain ⟨a1, c1, rfl⟩ := hnl.shape
        obtain ⟨a2, c2, rfl⟩ := hnr.shape
        have hkl := Lib.hid hkl
        have hnl := Lib.hid hnl
        have hkr := Lib.hid hkr
        have hnr := Lib.hid hnr
        have hst2 := Lib.hid (hst1.out.below b2)
        have hstep2 := Lib.hid (hstep1.out.trans (PolStep.below (ob := ob) (v := v1) b2 hst1.out.ks))
        have hown2 := Lib.hid (show v1.ownBlock ≠ some W1.heap.size by intro e; have := (hst1.out.own.lt _ e).2; omega)
        have hobP := Lib.hid (show W1.heap.size ≠ ob by have := World.block_lt_of_cell? W1 _ hst1.out.oc; simp only at this; omega)
        clear hst1 hstep1 b2 hsz2
        generalize W1.heap.size = P at *
        go_wp2_with fail
        go_loopw [15] (fun i wr => ∃ vo' : Value, ((i = .int .i64 0 ∧ Hid (PolSt K ob wb wr vo' (xs ++ [s])) ∧ wr.cell? ⟨P, 0, none⟩ = some (.slice a1 (flat l).length c1) ∧ Hid (Nodes wr (.slice a1 (flat l).length c1) (flat l)) ∧ wr.cell? ⟨P, 1, none⟩ = some (.slice a2 (flat r).length c2) ∧ Hid (Nodes wr (.slice a2 (flat r).length c2) (flat r)) ∧ Hid (vo'.ownBlock ≠ some P)) ∨ (i = .int .i64 1 ∧ Hid (PolSt K ob wb wr vo' (xs ++ ([s] ++ L))) ∧ wr.cell? ⟨P, 1, none⟩ = some (.slice a2 (flat r).length c2) ∧ Hid (Nodes wr (.slice a2 (flat r).length c2) (flat r))) ∨ (i = .int .i64 2 ∧ Hid (PolSt K ob wb wr vo' (xs ++ (([s] ++ L) ++ polT s r))))) ∧ Hid (PolStep K ob w vo wr vo')) (fun i _ => 2 - (intOf i).toNat)
        case atStart => exact ⟨v1, .inl ⟨rfl, hst2.out, hcl, hnl.out, hcr, hnr.out, hown2.out⟩, hstep2.out⟩
        case round =>
          clear hst2 hstep2 hcl hnl hcr hnr hc0 hown2
          obtain ⟨vo', hrel | hrel | hrel, hstep⟩ := hrel
          · obtain ⟨rfl, hst, hcl, hnl, hcr, hnr, hown⟩ := hrel
            have hc0 := hhead.out _ hstep.out.bel
            have hwc := hst.out.wc
            unfold polF at hwc
            go_wp2_with fail
            refine (hIH.out _ vo' _ _ hnl.out hkl.out hst.out (by simp; omega)).mono ?_
            rintro e w3 ⟨⟨u, rfl⟩, vo3, hst3, hstep3⟩
            have hcr3 := hstep3.cell hcr hobP.out hown.out
            have hst3 := Lib.hid hst3
            have hstep3 := Lib.hid hstep3
            go_wp2_with fail
            go_roundw
            case rel => exact ⟨vo3, .inr (.inl ⟨rfl, by rw [List.append_assoc] at hst3; exact hst3.out, hcr3, nodes_inK hnr.out hkr.out hstep3.out.bel⟩), hstep.out.trans hstep3.out⟩
            case measure => simp [intOf]
          · obtain ⟨rfl, hst, hcr, hnr⟩ := hrel
            have hc0 := hhead.out _ hstep.out.bel
            have hwc := hst.out.wc
            unfold polF at hwc
            go_wp2_with fail
            refine (hIHR.out _ vo' _ _ hnr.out hkr.out hst.out (by simp; rw [hpl.out]; omega)).mono ?_
            rintro e w3 ⟨⟨u, rfl⟩, vo3, hst3, hstep3⟩
            have hst3 := Lib.hid hst3
            have hstep3 := Lib.hid hstep3
            go_wp2_with fail
            go_roundw
            case rel => exact ⟨vo3, .inr (.inr ⟨rfl, by rw [List.append_assoc] at hst3; exact hst3.out⟩), hstep.out.trans hstep3.out⟩
            case measure => simp [intOf]
          · obtain ⟨rfl, hst⟩ := hrel
            go_wp2_with fail
            refine bodyPost_end (results_none rfl _ _ _) rfl ?_
            exact ⟨⟨_, rfl⟩, vo', by rw [hP.out]; exact hst.out, hstep.out⟩
      · have hIH := Lib.hid (fun v vo xs w => IHL.out s v vo xs w hsH.out h2)
        have hpl := Lib.hid (hpl.out s)
        rw [hi4] at hP
        clear hi4
        generalize polT s l = L at *
        go_enter Try.func99, Try.ntmps99
        go_wp2_with (at_builtin; refine wpList_append_own_at _ rfl _ _ 33 rfl K 2 i0 (.int .i64 0) 1 8 Try.underlying33 hi hz0 hz1 hz2 rfl (by decide) vo xs.length (xs.map (Value.int .i64)) rfl hst0.out.own ⟨w.heap.size, 0, none⟩ 1 1 [.int .i64 s] rfl rfl hnew.out (ints_oneCell .i64 [s]) (by unfold maxLen; omega) (by omega) hks ?_; intro v1 w1 hown1 hgrow1 _ hblk1; obtain ⟨g1, k1, rfl, _⟩ := own_slice hown1 (by omega); have hoc1 := (hst0.out.seen hgrow1).1; have hfr1 := (hst0.out.seen hgrow1).2; have hown1 := Lib.hid hown1; have hgrow1 := Lib.hid hgrow1; have hblk1 := Lib.hid hblk1)
        obtain ⟨hst1, hstep1⟩ := hst0.out.push hown1.out hgrow1.out hblk1.out
        have hst1 := Lib.hid hst1
        have hstep1 := Lib.hid (hstep0.out.trans hstep1)
        clear hown1 hgrow1 hblk1 hoc1 hfr1 hoc hnew hst0 hstep0
        generalize w1.setCell ⟨ob, 0, none⟩ (Value.slice (some ⟨g1, 0, none⟩) (xs.length + 1) k1) = W1 at *
        generalize Value.slice (some ⟨g1, 0, none⟩) (xs.length + 1) k1 = v1 at *
        refine (hpa.out _ hstep1.out.bel).mono ?_
        rintro e w2 ⟨vl, vr, rfl, hcl, hcr, hnl, hkl, hnr, hkr, b2, hsz2⟩
        obtain ⟨a1, c1, rfl⟩ := hnl.shape
        obtain ⟨a2, c2, rfl⟩ := hnr.shape
        have hkl := Lib.hid hkl
        have hnl := Lib.hid hnl
        have hkr := Lib.hid hkr
        have hnr := Lib.hid hnr
        have hst2 := Lib.hid (hst1.out.below b2)
        have hstep2 := Lib.hid (hstep1.out.trans (PolStep.below (ob := ob) (v := v1) b2 hst1.out.ks))
        have hown2 := Lib.hid (show v1.ownBlock ≠ some W1.heap.size by intro e; have := (hst1.out.own.lt _ e).2; omega)
        have hobP := Lib.hid (show W1.heap.size ≠ ob by have := World.block_lt_of_cell? W1 _ hst1.out.oc; simp only at this; omega)
        clear hst1 hstep1 b2 hsz2
        generalize W1.heap.size = P at *
        go_wp2_with fail
        go_loopw [15] (fun i wr => ∃ vo' : Value, ((i = .int .i64 0 ∧ Hid (PolSt K ob wb wr vo' (xs ++ [s])) ∧ wr.cell? ⟨P, 0, none⟩ = some (.slice a1 (flat l).length c1) ∧ Hid (Nodes wr (.slice a1 (flat l).length c1) (flat l)) ∧ wr.cell? ⟨P, 1, none⟩ = some (.slice a2 (flat r).length c2) ∧ Hid (Nodes wr (.slice a2 (flat r).length c2) (flat r)) ∧ Hid (vo'.ownBlock ≠ some P)) ∨ (i = .int .i64 1 ∧ Hid (PolSt K ob wb wr vo' (xs ++ ([s] ++ L))) ∧ wr.cell? ⟨P, 1, none⟩ = some (.slice a2 (flat r).length c2) ∧ Hid (Nodes wr (.slice a2 (flat r).length c2) (flat r))) ∨ (i = .int .i64 2 ∧ Hid (PolSt K ob wb wr vo' (xs ++ (([s] ++ L) ++ polT s r))))) ∧ Hid (PolStep K ob w vo wr vo')) (fun i _ => 2 - (intOf i).toNat)
        case atStart => exact ⟨v1, .inl ⟨rfl, hst2.out, hcl, hnl.out, hcr, hnr.out, hown2.out⟩, hstep2.out⟩
        case round =>
          clear hst2 hstep2 hcl hnl hcr hnr hc0 hown2
          obtain ⟨vo', hrel | hrel | hrel, hstep⟩ := hrel
          · obtain ⟨rfl, hst, hcl, hnl, hcr, hnr, hown⟩ := hrel
            have hc0 := hhead.out _ hstep.out.bel
            have hwc := hst.out.wc
            unfold polF at hwc
            go_wp2_with fail
            refine (hIH.out _ vo' _ _ hnl.out hkl.out hst.out (by simp; omega)).mono ?_
            rintro e w3 ⟨⟨u, rfl⟩, vo3, hst3, hstep3⟩
            have hcr3 := hstep3.cell hcr hobP.out hown.out
            have hst3 := Lib.hid hst3
            have hstep3 := Lib.hid hstep3
            go_wp2_with fail
            go_roundw
            case rel => exact ⟨vo3, .inr (.inl ⟨rfl, by rw [List.append_assoc] at hst3; exact hst3.out, hcr3, nodes_inK hnr.out hkr.out hstep3.out.bel⟩), hstep.out.trans hstep3.out⟩
            case measure => simp [intOf]
          · obtain ⟨rfl, hst, hcr, hnr⟩ := hrel
            have hc0 := hhead.out _ hstep.out.bel
            have hwc := hst.out.wc
            unfold polF at hwc
            go_wp2_with fail
            refine (hIHR.out _ vo' _ _ hnr.out hkr.out hst.out (by simp; rw [hpl.out]; omega)).mono ?_
            rintro e w3 ⟨⟨u, rfl⟩, vo3, hst3, hstep3⟩
            have hst3 := Lib.hid hst3
            have hstep3 := Lib.hid hstep3
            go_wp2_with fail
            go_roundw
            case rel => exact ⟨vo3, .inr (.inr ⟨rfl, by rw [List.append_assoc] at hst3; exact hst3.out⟩), hstep.out.trans hstep3.out⟩
            case measure => simp [intOf]
          · obtain ⟨rfl, hst⟩ := hrel
            go_wp2_with fail
            refine bodyPost_end (results_none rfl _ _ _) rfl ?_
            exact ⟨⟨_, rfl⟩, vo', by rw [hP.out]; exact hst.out, hstep.out⟩
end Go.Proofs.Ytbpkogknmhklbaa
