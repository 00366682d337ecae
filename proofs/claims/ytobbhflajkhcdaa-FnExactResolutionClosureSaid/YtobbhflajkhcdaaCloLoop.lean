/- What the innermost loop of impl.ResolutionClosure keeps. -/
import Derived.Test.YtobbhflajkhcdaaPendI
import Derived.Test.YtobbhflajkhcdaaResList
namespace Go.Proofs.Ytobbhflajkhcdaa
open Go.RowKit Go.Lib
set_option linter.unusedVariables false

theorem slices_mapped {w w' : World} {v : Value} {ss : List SlI} {P : Program} {k : TypeId} {b m : Nat} {f : Int → Option Value} (h : SlicesI w v ss) (hm : MapV P k w b m f) (hg : w.grownBy w' (some b)) : SlicesI w' v ss := by
  obtain ⟨D, ⟨es, clock, hb2, _⟩, _⟩ := hm
  obtain ⟨h1, h2, a, c, q, o, rfl, hc, ha, hcell⟩ := h
  refine ⟨h1, h2, a, c, q, o, rfl, hc, ha, fun i u hu => ?_⟩
  have h3 := hcell i u hu
  refine (World.cell?_of_block (hg.block q (World.block_lt_of_cell? w _ h3) fun e => ?_)).trans h3
  obtain rfl : q = b := by simpa using e
  simp [World.cell?, hb2] at h3
theorem pend_of_res {K : Nat} {wr W1 W2 W3 : World} {o : Obj} {v : Value} {ss rs1 rs2 : List SlI} {a1 a2 : Option Addr} {n1 c1 n2 c2 : Nat} {L1 L2 : List (List Int)} (hg : GrowI K wr v ss)
    (f1 : ResAt wr.drew.heap.size W1 a1 n1 c1 rs1 L1) (b1 : Below wr.drew.heap.size wr.drew W1) (f2 : ResAt W1.heap.size W2 a2 n2 c2 rs2 L2) (b2 : Below W1.heap.size W1 W2) (b3 : Below (W2.alloc o).heap.size (W2.alloc o) W3) :
    PendI K W3 v ss (rs1 ++ rs2) ∧ Below wr.heap.size wr W3 ∧ (rs1 ++ rs2).map Prod.snd = L1 ++ L2 := by
  have B1 : Below wr.heap.size wr W1 := keep_step b1 (Below.drew (Below.refl _ _))
  have B2 := keep_step b2 B1
  have ba : Below W2.heap.size W2 (W2.alloc o) := (Below.refl _ _).alloc (Nat.le_refl _) _
  have b23 : Below W2.heap.size W2 W3 := keep_step b3 ba
  have B3 := keep_step b23 B2
  have f1' := (f1.below b2).below b23
  have f2' := f2.below b23
  refine ⟨hg.wait B3 (fun s hs => ?_) ?_, B3, by rw [List.map_append, f1.vals, f2.vals]⟩
  · rcases List.mem_append.1 hs with hs | hs
    · exact f1'.row s hs
    · exact own_mono (f2'.row s hs) B1.size
  · rw [List.pairwise_append]
    refine ⟨f1.pw, f2.pw, fun s hs t ht k hk hk2 => ?_⟩
    have h1 := own_lt (f1.row s hs) k hk
    have h2 := ((f2.row t ht).lt k hk2).1
    omega

structure LoopR (K B : Nat) (Is : List (List Int)) (w wr : World) (v : Value) (ss0 ss rs : List SlI) (t : Nat) (f : Int → Option Value) (j i : Nat) (a3 : Option Addr) (c3 : Nat) : Prop where
  p : PendI K wr v ss (rs.drop t)
  c : CloSt Is (ss.map Prod.snd) j i
  x : ∃ ext, ss = ss0 ++ ext
  d : ∀ r ∈ rs.take t, r.2 ∈ ss.map Prod.snd
  m : MapV Try.prog 2 wr B ss.length f
  s : SeenF f (ss.map Prod.snd)
  r : SlicesI wr (.slice a3 rs.length c3) rs
  n : ∀ k, (Value.slice a3 rs.length c3).ownBlock = some k → v.ownBlock ≠ some k ∧ k < wr.heap.size
  b : Below K w wr
theorem LoopR.skip {K B : Nat} {Is : List (List Int)} {w wr : World} {v : Value} {ss0 ss rs : List SlI} {t : Nat} {f : Int → Option Value} {j i : Nat} {a3 : Option Addr} {c3 : Nat} {r : SlI}
    (h : LoopR K B Is w wr v ss0 ss rs t f j i a3 c3) (hr : rs[t]? = some r) (hm : r.2 ∈ ss.map Prod.snd) : LoopR K B Is w wr v ss0 ss rs (t + 1) f j i a3 c3 := by
  obtain ⟨hlt, he⟩ := List.getElem?_eq_some_iff.1 hr
  have hp := h.p
  rw [List.drop_eq_getElem_cons hlt] at hp
  refine ⟨hp.skip, h.c, h.x, fun s hs => ?_, h.m, h.s, h.r, h.n, h.b⟩
  rw [List.take_add_one, hr] at hs
  rcases List.mem_append.1 hs with hs | hs
  · exact h.d s hs
  · obtain rfl : s = r := by simpa using hs
    exact hm
theorem LoopR.add {K B : Nat} {Is : List (List Int)} {w wr w5 w7 : World} {v v7 : Value} {ss0 ss rs : List SlI} {t : Nat} {f : Int → Option Value} {j i : Nat} {a3 : Option Addr} {c3 : Nat} {r : SlI} {o : Obj}
    (h : LoopR K B Is w wr v ss0 ss rs t f j i a3 c3) (hr : rs[t]? = some r) (hn : r.2 ∉ ss.map Prod.snd) (hc : Clo Is r.2) (hcl : clauseB r.2 = true) (hj : j < ss.length)
    (hm5 : MapV Try.prog 2 w5 B (ss.length + 1) (setF f ((orBits r.2 : Nat) : Int) (.bool true))) (hg5 : wr.grownBy w5 (some B)) (hB : K ≤ B)
    (ho7 : w7.ownsRow K 30 1 v7 (ss.length + 1) (ss.map slVI ++ [slVI r])) (hg7 : (w5.alloc o).grownBy w7 v.ownBlock) (hk7 : v7.ownBlock = v.ownBlock ∨ v7.ownBlock = some (w5.alloc o).heap.size) :
    LoopR K B Is w w7 v7 ss0 (ss ++ [r]) rs (t + 1) (setF f ((orBits r.2 : Nat) : Int) (.bool true)) j i a3 c3 := by
  obtain ⟨hlt, he⟩ := List.getElem?_eq_some_iff.1 hr
  have hp := h.p
  rw [List.drop_eq_getElem_cons hlt, he] at hp
  have hp5 := hp.mapped h.m hg5
  have ba : Below w5.heap.size w5 (w5.alloc o) := (Below.refl _ _).alloc (Nat.le_refl _) _
  have hs5 := hg5.size
  have hs7 := hg7.size
  have hsa := ba.size
  have hvB : v.ownBlock ≠ some B := own_ne_map h.p.own h.m
  have hma : MapV Try.prog 2 (w5.alloc o) B (ss.length + 1) (setF f ((orBits r.2 : Nat) : Int) (.bool true)) := hm5.below ba
  have hra : SlicesI (w5.alloc o) (.slice a3 rs.length c3) rs := (slices_mapped h.r h.m hg5).below ba (Nat.le_refl _)
  have hb5 : Below K w w5 := h.b.grown hg5 h.p.ks (fun k hk => by
    obtain rfl : B = k := by simpa using hk
    exact hB)
  have hba : Below K w (w5.alloc o) := hb5.alloc (by have := h.p.ks; omega) o
  refine ⟨hp5.add ba ho7 hg7 hk7, ?_, ?_, fun s hs => ?_, ?_, ?_, ?_, fun k hk => ?_, ?_⟩
  · rw [List.map_append]
    exact h.c.add (by rw [List.length_map]; exact hj) hn hc
  · obtain ⟨ext, he⟩ := h.x
    exact ⟨ext ++ [r], by rw [he, List.append_assoc]⟩
  · rw [List.map_append, List.mem_append]
    rw [List.take_add_one, hr] at hs
    rcases List.mem_append.1 hs with hs | hs
    · exact .inl (h.d s hs)
    · obtain rfl : s = r := by simpa using hs
      exact .inr (by simp)
  · rw [List.length_append]
    exact hma.kept hg7 (fun e => hvB e.symm)
  · rw [List.map_append]
    exact h.s.add hcl
  · exact slices_grown hra hg7 (fun k hk hk2 => (h.n k hk2).1 hk)
  · obtain ⟨h1, h2⟩ := h.n k hk
    refine ⟨?_, by omega⟩
    rcases hk7 with e | e
    · rw [e]; exact h1
    · rw [e]
      intro e2
      obtain rfl : (w5.alloc o).heap.size = k := by simpa using e2
      omega
  · exact hba.grown hg7 (by have := h.p.ks; omega) (fun k hk => (h.p.own.lt k hk).1)
/-- Where the program's loops stand. -/
structure ImpSt (K B : Nat) (Is : List (List Int)) (w wr : World) (v : Value) (ss : List SlI) (f : Int → Option Value) (j i : Nat) : Prop where
  g : GrowI K wr v ss
  c : CloSt Is (ss.map Prod.snd) j i
  m : MapV Try.prog 2 wr B ss.length f
  s : SeenF f (ss.map Prod.snd)
  b : Below K w wr
theorem ImpSt.loop {K B : Nat} {Is : List (List Int)} {w wr W1 W2 W3 : World} {o : Obj} {v : Value} {ss rs1 rs2 : List SlI} {a1 a2 a3 : Option Addr} {n1 c1 n2 c2 c3 : Nat} {L1 L2 : List (List Int)} {f : Int → Option Value} {j i : Nat} (h : ImpSt K B Is w wr v ss f j i)
    (f1 : ResAt wr.drew.heap.size W1 a1 n1 c1 rs1 L1) (b1 : Below wr.drew.heap.size wr.drew W1) (f2 : ResAt W1.heap.size W2 a2 n2 c2 rs2 L2) (b2 : Below W1.heap.size W1 W2)
    (f3 : SlicesI W3 (.slice a3 (rs1 ++ rs2).length c3) (rs1 ++ rs2) ∧ ∀ k, (Value.slice a3 (rs1 ++ rs2).length c3).ownBlock = some k → W2.heap.size < k ∧ k < W3.heap.size) (b3 : Below (W2.alloc o).heap.size (W2.alloc o) W3) :
    LoopR K B Is w W3 v ss ss (rs1 ++ rs2) 0 f j i a3 c3 ∧ (rs1 ++ rs2).map Prod.snd = L1 ++ L2 := by
  obtain ⟨h1, h2, h3⟩ := pend_of_res h.g f1 b1 f2 b2 b3
  refine ⟨⟨h1, h.c, ⟨[], by simp⟩, fun r hr => by simp at hr, h.m.below h2, h.s, f3.1, fun k hk => ?_, h.b.trans (h2.mono h.g.ks)⟩, h3⟩
  obtain ⟨k1, k2⟩ := f3.2 k hk
  refine ⟨fun e => ?_, k2⟩
  have q1 := own_lt h.g.own k e
  have q2 := b1.size
  have q3 := b2.size
  have q4 : wr.drew.heap.size = wr.heap.size := rfl
  omega
theorem LoopR.done {K B : Nat} {Is : List (List Int)} {w wr : World} {v : Value} {ss0 ss rs : List SlI} {t : Nat} {f : Int → Option Value} {j i : Nat} {a3 : Option Addr} {c3 : Nat} {sc sd : SlI} (h : LoopR K B Is w wr v ss0 ss rs t f j i a3 c3) (ht : rs.length ≤ t)
    (hrs : rs.map Prod.snd = rvL sc.2 sd.2 6 ++ rvL sd.2 sc.2 6) (hc : ss0[i]? = some sc) (hd : ss0[j]? = some sd) : ImpSt K B Is w wr v ss f j (i + 1) := by
  have hall : ∀ r, r ∈ rvL sc.2 sd.2 6 ++ rvL sd.2 sc.2 6 → r ∈ ss.map Prod.snd := fun r hr => by
    rw [← hrs] at hr
    obtain ⟨s, hs, rfl⟩ := List.mem_map.1 hr
    exact h.d s (by rw [List.take_of_length_le ht]; exact hs)
  obtain ⟨ext, he⟩ := h.x
  have get : ∀ (k : Nat) (s : SlI), ss0[k]? = some s → (ss.map Prod.snd)[k]? = some s.2 := fun k s hk => by
    rw [he, List.map_append, List.getElem?_append_left (by rw [List.length_map]; exact (List.getElem?_eq_some_iff.1 hk).1), List.getElem?_map, hk]; rfl
  exact ⟨h.p.grow, h.c.step (get i sc hc) (get j sd hd) (fun r hr => hall r (List.mem_append_left _ hr)) (fun r hr => hall r (List.mem_append_right _ hr)), h.m, h.s, h.b⟩
theorem LoopR.clause {K B : Nat} {Is : List (List Int)} {w wr : World} {v : Value} {ss0 ss rs : List SlI} {t : Nat} {f : Int → Option Value} {j i : Nat} {a3 : Option Addr} {c3 : Nat} {sc sd r : SlI} (h : LoopR K B Is w wr v ss0 ss rs t f j i a3 c3) (hr : rs[t]? = some r)
    (hrs : rs.map Prod.snd = rvL sc.2 sd.2 6 ++ rvL sd.2 sc.2 6) (hc : ss0[i]? = some sc) (hd : ss0[j]? = some sd) : clauseB r.2 = true ∧ Clo Is r.2 := by
  have hm : r.2 ∈ rvL sc.2 sd.2 6 ++ rvL sd.2 sc.2 6 := by rw [← hrs]; exact List.mem_map.2 ⟨r, List.mem_of_getElem? hr, rfl⟩
  obtain ⟨ext, he⟩ := h.x
  have get : ∀ (k : Nat) (s : SlI), ss0[k]? = some s → Clo Is s.2 := fun k s hk => h.c.sound _ (by rw [he, List.map_append]; exact List.mem_append_left _ (List.mem_map.2 ⟨s, List.mem_of_getElem? hk, rfl⟩))
  rcases List.mem_append.1 hm with hm | hm
  · exact ⟨(rvL_mem hm).1, .res (get i sc hc) (get j sd hd) hm⟩
  · exact ⟨(rvL_mem hm).1, .res (get j sd hd) (get i sc hc) hm⟩
end Go.Proofs.Ytobbhflajkhcdaa
