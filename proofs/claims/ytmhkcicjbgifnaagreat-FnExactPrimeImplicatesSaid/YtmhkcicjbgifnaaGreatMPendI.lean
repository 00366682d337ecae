/- A list of lists under construction beside elements that may still be appended; the map of the clauses seen. -/
import Derived.Test.YtmhkcicjbgifnaaGreatMMapVM
import Derived.Test.YtmhkcicjbgifnaaGreatMClo

namespace Go.Proofs.YtmhkcicjbgifnaaGreat
open Go.RowKit
set_option linter.unusedVariables false

theorem own_ne_map {w : World} {B : Nat} {e : TypeId} {s : Nat} {v : Value} {n : Nat} {xs : List Value} {P : Program} {k : TypeId} {b m : Nat} {f : Int → Option Value} (h : w.ownsRow B e s v n xs) (hm : MapV P k w b m f) : v.ownBlock ≠ some b := by
  intro hb
  obtain ⟨D, ⟨es, clock, hb2, _⟩, _⟩ := hm
  rcases h.2 with ⟨rfl, _⟩ | ⟨g, cap, cur, rfl, _, hg, _⟩
  · cases hb
  · obtain rfl : g = b := by simpa [Value.ownBlock] using hb
    rw [hg] at hb2
    cases hb2
theorem row_mapped {w w' : World} {B : Nat} {e : TypeId} {s : Nat} {v : Value} {n : Nat} {xs : List Value} {P : Program} {k : TypeId} {b m : Nat} {f : Int → Option Value} (h : w.ownsRow B e s v n xs) (hm : MapV P k w b m f) (hg : w.grownBy w' (some b)) : w'.ownsRow B e s v n xs := by
  refine h.kept hg ?_
  cases hv : v.ownBlock with
  | none => exact .inl rfl
  | some j => exact .inr (fun e => own_ne_map h hm (hv.trans e))

theorem own_addr {w : World} {B : Nat} {e : TypeId} {s : Nat} {a : Option Addr} {n c : Nat} {xs : List Value} (h : w.ownsRow B e s (.slice a n c) n xs) (hn : 0 < n) : ∃ g, a = some ⟨g, 0, none⟩ := by
  rcases h.2 with ⟨h0, h1⟩ | ⟨g, cap, cur, hv, _⟩
  · omega
  · cases hv
    exact ⟨g, rfl⟩
structure PendI (K : Nat) (w : World) (v : Value) (ss pend : List SlI) : Prop where
  own : w.ownsRow K 48 1 v ss.length (ss.map slVI)
  row : ∀ s ∈ ss ++ pend, w.ownsRow K 2 1 (slVI s) s.2.length (s.2.map (Value.int .i64))
  ap : ∀ s ∈ ss ++ pend, ∀ k, v.ownBlock = some k → (slVI s).ownBlock ≠ some k
  pw : (ss ++ pend).Pairwise fun s t => ∀ k, (slVI s).ownBlock = some k → (slVI t).ownBlock ≠ some k
  ks : K ≤ w.heap.size
theorem PendI.grow {K : Nat} {w : World} {v : Value} {ss pend : List SlI} (h : PendI K w v ss pend) : GrowI K w v ss :=
  ⟨h.own, fun s hs => h.row s (List.mem_append_left _ hs), fun s hs => h.ap s (List.mem_append_left _ hs), h.pw.sublist (List.sublist_append_left _ _), h.ks⟩
theorem PendI.skip {K : Nat} {w : World} {v : Value} {ss pend : List SlI} {r : SlI} (h : PendI K w v ss (r :: pend)) : PendI K w v ss pend := by
  have hs : (ss ++ pend).Sublist (ss ++ r :: pend) := (List.Sublist.refl ss).append (List.sublist_cons_self _ _)
  exact ⟨h.own, fun s hm => h.row s (hs.subset hm), fun s hm => h.ap s (hs.subset hm), h.pw.sublist hs, h.ks⟩
theorem PendI.below {K : Nat} {w w' : World} {v : Value} {ss pend : List SlI} (h : PendI K w v ss pend) (hb : Below w.heap.size w w') : PendI K w' v ss pend :=
  ⟨own_below h.own hb (Nat.le_refl _), fun s hs => own_below (h.row s hs) hb (Nat.le_refl _), h.ap, h.pw, Nat.le_trans h.ks hb.size⟩
theorem PendI.mapped {K : Nat} {w w' : World} {v : Value} {ss pend : List SlI} {P : Program} {k : TypeId} {b m : Nat} {f : Int → Option Value} (h : PendI K w v ss pend) (hm : MapV P k w b m f) (hg : w.grownBy w' (some b)) : PendI K w' v ss pend :=
  ⟨row_mapped h.own hm hg, fun s hs => row_mapped (h.row s hs) hm hg, h.ap, h.pw, Nat.le_trans h.ks hg.size⟩
theorem GrowI.pend {K : Nat} {w : World} {v : Value} {ss : List SlI} (h : GrowI K w v ss) : PendI K w v ss [] :=
  ⟨h.own, fun s hs => h.row s (by simpa using hs), fun s hs => h.ap s (by simpa using hs), by simpa using h.pw, h.ks⟩
theorem GrowI.mapped {K : Nat} {w w' : World} {v : Value} {ss : List SlI} {P : Program} {k : TypeId} {b m : Nat} {f : Int → Option Value} (h : GrowI K w v ss) (hm : MapV P k w b m f) (hg : w.grownBy w' (some b)) : GrowI K w' v ss := (h.pend.mapped hm hg).grow
/-- Elements that were made behind the list. -/
theorem GrowI.wait {K : Nat} {w w1 : World} {v : Value} {ss rs : List SlI} (h : GrowI K w v ss) (hb : Below w.heap.size w w1) (hr : ∀ s ∈ rs, w1.ownsRow w.heap.size 2 1 (slVI s) s.2.length (s.2.map (Value.int .i64)))
    (hp : rs.Pairwise fun s t => ∀ k, (slVI s).ownBlock = some k → (slVI t).ownBlock ≠ some k) : PendI K w1 v ss rs := by
  have h1 := h.below hb
  refine ⟨h1.own, fun s hs => ?_, fun s hs k hk hk2 => ?_, ?_, h1.ks⟩
  · rcases List.mem_append.1 hs with hs | hs
    · exact h1.row s hs
    · exact own_mono (hr s hs) h.ks
  · rcases List.mem_append.1 hs with hs | hs
    · exact h.ap s hs k hk hk2
    · have h2 := own_lt h.own k hk
      have h3 := ((hr s hs).lt k hk2).1
      omega
  · rw [List.pairwise_append]
    refine ⟨h1.pw, hp, fun s hs t ht k hk hk2 => ?_⟩
    have h2 := own_lt (h.row s hs) k hk
    have h3 := ((hr t ht).lt k hk2).1
    omega
theorem PendI.add {K : Nat} {w w1 w2 : World} {v v1 : Value} {ss pend : List SlI} {r : SlI} (h : PendI K w v ss (r :: pend)) (b : Below w.heap.size w w1)
    (ho : w2.ownsRow K 48 1 v1 (ss.length + 1) (ss.map slVI ++ [slVI r])) (hg : w1.grownBy w2 v.ownBlock) (hk : v1.ownBlock = v.ownBlock ∨ v1.ownBlock = some w1.heap.size) : PendI K w2 v1 (ss ++ [r]) pend := by
  have e : ss ++ [r] ++ pend = ss ++ r :: pend := by simp
  have hlt : ∀ s ∈ ss ++ r :: pend, ∀ k, (slVI s).ownBlock = some k → k < w.heap.size := fun s hs => own_lt (h.row s hs)
  have hsz := b.size
  refine ⟨by rw [List.length_append, List.map_append]; exact ho, fun s hs => ?_, fun s hs k hk1 hk2 => ?_, by rw [e]; exact h.pw, Nat.le_trans h.ks (Nat.le_trans b.size hg.size)⟩
  · rw [e] at hs
    exact row_same (own_below (h.row s hs) b (Nat.le_refl _)) fun k hk1 _ hl => hg.block k hl fun e2 => h.ap s hs k e2.symm hk1
  · rw [e] at hs
    rcases hk with hk | hk
    · rw [hk] at hk1
      exact h.ap s hs k hk1 hk2
    · rw [hk] at hk1
      obtain rfl : w1.heap.size = k := by simpa using hk1
      have := hlt s hs _ hk2
      omega
/-- The slices of a list of lists of one's own. -/
theorem OwnII.sl {lo hi : Nat} {w : World} {v : Value} {Is : List (List Int)} (h : OwnII lo hi w v Is) : ∃ rs : List SlI, rs.map Prod.snd = Is ∧ SlicesI w v rs ∧ (∀ s ∈ rs, w.ownsRow lo 2 1 (slVI s) s.2.length (s.2.map (Value.int .i64))) ∧ (∀ s ∈ rs, ∀ k, (slVI s).ownBlock = some k → k < hi) ∧
    rs.Pairwise fun s t => ∀ k, (slVI s).ownBlock = some k → (slVI t).ownBlock ≠ some k := by
  obtain ⟨hs, h⟩ := h
  have e1 : (hs.zip Is).map Prod.fst = hs := List.map_fst_zip (by rw [h.len]; exact Nat.le_refl _)
  have e2 : (hs.zip Is).map Prod.snd = Is := List.map_snd_zip (by rw [h.len]; exact Nat.le_refl _)
  have el : (hs.zip Is).length = hs.length := by rw [List.length_zip, h.len, Nat.min_self]
  refine ⟨hs.zip Is, e2, ?_, fun s hs' => ?_, fun s hs' k hk => ?_, ?_⟩
  · unfold SlicesI
    have e3 : (hs.zip Is).map slVI = hs.map hdVI := by
      conv => rhs; rw [← e1]
      rw [List.map_map]; rfl
    rw [e3, el]
    exact h.out
  · obtain ⟨j, hj⟩ := List.getElem?_of_mem hs'
    rw [List.getElem?_zip_eq_some] at hj
    exact h.row j s.1 s.2 hj.1 hj.2
  · obtain ⟨j, hj⟩ := List.getElem?_of_mem hs'
    rw [List.getElem?_zip_eq_some] at hj
    exact (h.lt s.1 (List.mem_of_getElem? hj.1) k hk).1
  · rw [List.pairwise_iff_getElem]
    intro i j hi hj hij k hk hk2
    have h1 := List.getElem?_zip_eq_some.1 (List.getElem?_eq_getElem hi)
    have h2 := List.getElem?_zip_eq_some.1 (List.getElem?_eq_getElem hj)
    exact h.ap i j _ _ k (by omega) h1.1 h2.1 hk hk2
theorem slices_grown {w w' : World} {v : Value} {ss : List SlI} {row : Option Nat} (h : SlicesI w v ss) (hg : w.grownBy w' row) (hne : ∀ k, row = some k → v.ownBlock ≠ some k) : SlicesI w' v ss := by
  obtain ⟨h1, h2, a, c, b, o, rfl, hc, ha, hcell⟩ := h
  refine ⟨h1, h2, a, c, b, o, rfl, hc, ha, fun i u hu => ?_⟩
  have hp : 0 < ss.length := by
    have := (List.getElem?_eq_some_iff.1 hu).1
    simp at this
    omega
  obtain rfl := ha hp
  have h3 := hcell i u hu
  exact (World.cell?_of_block (hg.block b (World.block_lt_of_cell? w _ h3) fun e => hne b e.symm rfl)).trans h3

/-- The resolvents of two clauses in memory of their own. -/
structure ResAt (lo : Nat) (w : World) (a : Option Addr) (n c : Nat) (rs : List SlI) (L : List (List Int)) : Prop where
  vals : rs.map Prod.snd = L
  len : n = rs.length
  reads : Reads w 1 (.slice a n c) n (rs.map slVI)
  row : ∀ s ∈ rs, w.ownsRow lo 2 1 (slVI s) s.2.length (s.2.map (Value.int .i64))
  pw : rs.Pairwise fun s t => ∀ k, (slVI s).ownBlock = some k → (slVI t).ownBlock ≠ some k
theorem ResAt.below {lo : Nat} {w w' : World} {a : Option Addr} {n c : Nat} {rs : List SlI} {L : List (List Int)} (h : ResAt lo w a n c rs L) (hb : Below w.heap.size w w') : ResAt lo w' a n c rs L :=
  ⟨h.vals, h.len, h.reads.below hb (Nat.le_refl _), fun s hs => own_below (h.row s hs) hb (Nat.le_refl _), h.pw⟩
theorem resAt_of_own {lo hi : Nat} {w : World} {v : Value} {L : List (List Int)} (h : OwnII lo hi w v L) : ∃ a n c rs, v = .slice a n c ∧ ResAt lo w a n c rs L := by
  obtain ⟨rs, h1, h2, h3, _, h5⟩ := h.sl
  obtain ⟨_, a, c, _, _, rfl, _⟩ := h2.opened
  exact ⟨a, rs.length, c, rs, rfl, h1, rfl, h2, h3, h5⟩

/-! Which clauses have been seen. -/
def SeenF (f : Int → Option Value) (L : List (List Int)) : Prop := ∀ c, clauseB c = true → f ((orBits c : Nat) : Int) = if c ∈ L then some (.bool true) else none
theorem seenF_nil : SeenF (fun _ => none) [] := fun c _ => by simp
theorem SeenF.add {f : Int → Option Value} {L : List (List Int)} (h : SeenF f L) {c : List Int} (hc : clauseB c = true) : SeenF (setF f ((orBits c : Nat) : Int) (.bool true)) (L ++ [c]) := by
  intro d hd
  unfold setF
  by_cases e : orBits d = orBits c
  · have := key_inj hd hc e
    subst this
    rw [if_pos rfl, if_pos (by simp)]
  · rw [if_neg (by omega), h d hd]
    have hne : d ≠ c := fun e2 => e (by rw [e2])
    by_cases hm : d ∈ L
    · rw [if_pos hm, if_pos (by simp [hm])]
    · rw [if_neg hm, if_neg (by simp [hm, hne])]
theorem SeenF.look {f : Int → Option Value} {L : List (List Int)} (h : SeenF f L) {c : List Int} (hc : clauseB c = true) : (f ((orBits c : Nat) : Int)).getD (.bool false) = .bool (decide (c ∈ L)) := by
  rw [h c hc]
  by_cases hm : c ∈ L <;> simp [hm]
theorem key_wf {c : List Int} (hc : clauseB c = true) : (Lit.int .i64 ((orBits c : Nat) : Int)).wf = true := by
  have := key_lt hc
  exact WalkArith.wf_i64 (by omega)
end Go.Proofs.YtmhkcicjbgifnaaGreat
