/- Point formulas as trees; pieces of their memory; the mask of the free points. -/
import Derived.Test.YtfedipeabbaccaaDoorPtSpec
import Derived.Test.YtfedipeabbaccaaDoorParts
import Derived.Test.YtfedipeabbaccaaDoorMembers
namespace Go.Proofs.YtfedipeabbaccaaDoor
open Go.RowKit Go.Deep

abbrev PTr := BT Pt
def flatP : PTr → List Pt
  | .nil => []
  | .node _ _ n l r => n :: (flatP l ++ flatP r)
def okP : PTr → Prop
  | .nil => False
  | .node _ _ n l r => (arP n.1 = 0 ∧ l = .nil ∧ r = .nil) ∨ (arP n.1 = 1 ∧ okP l ∧ r = .nil) ∨ (arP n.1 = 2 ∧ okP l ∧ okP r)
def mpT : PTr → Tr
  | .nil => .nil
  | .node b o n l r => .node b o (mp n) (mpT l) (mpT r)
theorem flat_mpT (t : PTr) : flat (mpT t) = (flatP t).map mp := by
  induction t with
  | nil => rfl
  | node b o n l r ihl ihr => simp [mpT, flat, flatP, ihl, ihr]
theorem okT_mpT (t : PTr) (h : okP t) : okT (mpT t) := by
  induction t with
  | nil => exact h.elim
  | node b o n l r ihl ihr =>
    rcases h with ⟨h1, rfl, rfl⟩ | ⟨h1, h2, rfl⟩ | ⟨h1, h2, h3⟩
    · exact .inl ⟨by rw [ar_mp]; exact h1, rfl, rfl⟩
    · exact .inr (.inl ⟨by rw [ar_mp]; exact h1, ihl h2, rfl⟩)
    · exact .inr (.inr ⟨by rw [ar_mp]; exact h1, ihl h2, ihr h3⟩)
theorem flatP_pos (t : PTr) (h : okP t) : 0 < (flatP t).length := by
  cases t with
  | nil => exact h.elim
  | node _ _ n a b => simp [flatP]
theorem ptree_of_skip (k : Nat) : ∀ (l : List Pt) (r : List Nd), l.length ≤ k → skip (l.map mp) 1 = some r → ∃ t r', okP t ∧ l = flatP t ++ r' ∧ r = r'.map mp := by
  induction k with
  | zero =>
    intro l r hl h
    have : l = [] := List.eq_nil_of_length_eq_zero (by omega)
    subst this
    cases h
  | succ k ih =>
    intro l r hl h
    cases l with
    | nil => cases h
    | cons n l =>
      rw [List.map_cons, skip_cons, ar_mp] at h
      simp only [List.length_cons] at hl
      have ha := arP_le n.1
      rcases (show arP n.1 = 0 ∨ arP n.1 = 1 ∨ arP n.1 = 2 by omega) with h0 | h0 | h0
      · rw [h0, skip_zero] at h
        cases h
        exact ⟨.node 0 0 n .nil .nil, l, .inl ⟨h0, rfl, rfl⟩, by simp [flatP], rfl⟩
      · rw [h0] at h
        obtain ⟨t, r', ht, rfl, rfl⟩ := ih l r (by omega) h
        exact ⟨.node 0 0 n t .nil, r', .inr (.inl ⟨h0, ht, rfl⟩), by simp [flatP], rfl⟩
      · rw [h0, show 0 + 2 = 1 + 1 by omega, skip_add] at h
        cases hm : skip (l.map mp) 1 with
        | none => rw [hm] at h; cases h
        | some m =>
          rw [hm] at h
          obtain ⟨t, m', ht, rfl, rfl⟩ := ih l m (by omega) hm
          have hl2 : m'.length ≤ k := by simp only [List.length_append] at hl; omega
          obtain ⟨u, r', hu, rfl, rfl⟩ := ih m' r hl2 h
          exact ⟨.node 0 0 n t u, r', .inr (.inr ⟨h0, ht, hu⟩), by simp [flatP], rfl⟩
theorem pform_tree {ns : List Pt} (h : ptFormB ns = true) : ∃ t, okP t ∧ ns = flatP t ∧ ns.length ≤ 120 ∧ ns.all ptB = true := by
  simp only [ptFormB, Bool.and_eq_true, decide_eq_true_eq] at h
  obtain ⟨⟨⟨h1, h2⟩, h3⟩, h4⟩ := h
  obtain ⟨t, r', ht, hf, hr⟩ := ptree_of_skip _ ns [] (Nat.le_refl _) h4
  obtain rfl : r' = [] := by
    have := congrArg List.length hr
    exact List.eq_nil_of_length_eq_zero (by simpa using this.symm)
  rw [List.append_nil] at hf
  exact ⟨t, ht, hf, h2, h3⟩
theorem pEnd_first (n : Pt) (l r : PTr) (hl : okP l) : pEnd (n :: (flatP l ++ flatP r)) 1 = ((1 + (flatP l).length : Nat) : Int) := by
  have := partEndL_at [mp n] ((flatP r).map mp) (mpT l) (okT_mpT l hl)
  rw [flat_mpT] at this
  unfold pEnd
  simpa using this

theorem cellsP_drop (ns : List Pt) (i : Nat) : cellsP (ns.drop i) = (cellsP ns).drop (i * 3) := by
  induction ns generalizing i with
  | nil => simp [cellsP]
  | cons n ns ih =>
    cases i with
    | zero => simp
    | succ i =>
      rw [List.drop_succ_cons, ih, show (i + 1) * 3 = i * 3 + 1 + 1 + 1 by omega]
      simp [cellsP, encP]
theorem cellsP_take (ns : List Pt) (i : Nat) : cellsP (ns.take i) = (cellsP ns).take (i * 3) := by
  induction ns generalizing i with
  | nil => simp [cellsP]
  | cons n ns ih =>
    cases i with
    | zero => simp [cellsP]
    | succ i =>
      rw [List.take_succ_cons, show (i + 1) * 3 = i * 3 + 1 + 1 + 1 by omega]
      simp only [cellsP, List.flatMap_cons, encP, List.cons_append, List.nil_append, List.take_succ_cons] at ih ⊢
      rw [ih]
theorem points_piece {w : World} {b o i m c : Nat} {a : Option Addr} {ns : List Pt} (hcell : ∀ j u, (cellsP ns)[j]? = some u → w.cell? ⟨b, o + j, none⟩ = some u) (hm : m ≤ c) (hc : m ≤ maxLen) (hi : i + m ≤ ns.length) (ha : 0 < m → a = some ⟨b, o + i * 3, none⟩) :
    Points w (.slice a m c) ((ns.drop i).take m) := by
  have hl : ((ns.drop i).take m).length = m := by simp; omega
  refine ⟨by rw [cellsP_length], by rw [hl]; exact hc, a, c, b, o + i * 3, by rw [hl], by rw [hl]; exact hm, by rw [hl]; exact ha, fun j u hu => ?_⟩
  rw [cellsP_take, cellsP_drop, List.getElem?_take] at hu
  split at hu
  · rw [List.getElem?_drop] at hu
    have := hcell _ _ hu
    rw [Nat.add_assoc]
    exact this
  · cases hu
theorem Points.raw {w : World} {v : Value} {ns : List Pt} (h : Points w v ns) (hp : 0 < ns.length) : ∃ c b o, v = .slice (some ⟨b, o, none⟩) ns.length c ∧ ns.length ≤ c ∧ ns.length ≤ maxLen ∧ Hid (∀ j u, (cellsP ns)[j]? = some u → w.cell? ⟨b, o + j, none⟩ = some u) := by
  obtain ⟨_, h2, a, c, b, o, hv, hc, ha, hcell⟩ := h
  have := ha hp
  subst this
  exact ⟨c, b, o, hv, hc, h2, hcell⟩
theorem point_head {w : World} {b o : Nat} {x y z : Int} {r : List Pt} (h : ∀ j u, (cellsP ((x, y, z) :: r))[j]? = some u → w.cell? ⟨b, o + j, none⟩ = some u) : w.cell? ⟨b, o, none⟩ = some (.int .i64 x) ∧ w.cell? ⟨b, o + 1, none⟩ = some (.int .i64 y) ∧ w.cell? ⟨b, o + 2, none⟩ = some (.int .i64 z) :=
  ⟨h 0 _ rfl, h 1 _ rfl, h 2 _ rfl⟩

/-- The mask of the free points. -/
def frI : PTr → Int
  | .nil => 0
  | .node _ _ n l r => if n.1 = 0 ∨ n.1 = 1 then bits .or .i64 (2 ^ n.2.1.toNat) (2 ^ n.2.2.toNat) else if n.1 = 2 then 2 ^ n.2.2.toNat else
    if arP n.1 = 1 then bits .andNot .i64 (frI l) (2 ^ n.2.1.toNat) else if arP n.1 = 2 then bits .or .i64 (frI l) (frI r) else 0
theorem i64_andNot (a b : Int) (h1 : 0 ≤ a) (h2 : a < 9223372036854775808) : 0 ≤ bits .andNot .i64 a b ∧ bits .andNot .i64 a b ≤ a := by
  obtain ⟨A, rfl⟩ := Int.eq_ofNat_of_zero_le h1
  have e : bits .andNot .i64 (A : Int) b = IntKind.i64.wrap ((BitVec.ofInt 64 (A : Int) &&& ~~~ BitVec.ofInt 64 b).toNat : Int) := rfl
  have hle : (BitVec.ofInt 64 (A : Int) &&& ~~~ BitVec.ofInt 64 b).toNat ≤ A := by
    rw [BitVec.toNat_and, i64_ofInt A (by omega)]
    exact Nat.and_le_left
  rw [e, IntKind.wrap_i64]
  omega
theorem or_small {a b : Int} (h1 : 0 ≤ a) (h2 : a < 1024) (h3 : 0 ≤ b) (h4 : b < 1024) : 0 ≤ bits .or .i64 a b ∧ bits .or .i64 a b < 1024 := by
  have h5 : a.toNat ||| b.toNat < 2 ^ 10 := Nat.or_lt_two_pow (by omega) (by omega)
  rw [i64_or a b h1 (by omega) h3 (by omega)]
  omega
theorem or_zero {b : Int} (h3 : 0 ≤ b) (h4 : b < 1024) : bits .or .i64 0 b = b := by
  rw [i64_or 0 b (by omega) (by omega) h3 (by omega)]
  simp; omega
theorem pow_small {y : Int} (h : inR y 0 9 = true) : 0 ≤ (2 : Int) ^ y.toNat ∧ (2 : Int) ^ y.toNat < 1024 := by
  obtain ⟨h0, h1⟩ := inR_iff.1 h
  have hp := pow_bounds y 9 (by omega)
  rw [show (2 : Int) ^ 9 = 512 by decide] at hp
  omega
theorem frI_bounds (t : PTr) (h : (flatP t).all ptB = true) : 0 ≤ frI t ∧ frI t < 1024 := by
  induction t with
  | nil => exact ⟨Int.le_refl _, by decide⟩
  | node b o n l r ihl ihr =>
    obtain ⟨x, y, z⟩ := n
    simp only [flatP, List.all_cons, List.all_append, Bool.and_eq_true] at h
    have hL := ihl h.2.1
    have hR := ihr h.2.2
    unfold frI
    simp only
    split
    · rename_i hx
      have h1 := h.1
      rw [ptB_sees hx, Bool.and_eq_true] at h1
      have p1 := pow_small h1.1
      have p2 := pow_small h1.2
      exact or_small p1.1 p1.2 p2.1 p2.2
    · split
      · rename_i hx
        subst hx
        have h1 := h.1
        rw [ptB_val, Bool.and_eq_true] at h1
        exact pow_small h1.2
      · split
        · have := i64_andNot (frI l) (2 ^ y.toNat) hL.1 (by omega)
          omega
        · split
          · exact or_small hL.1 hL.2 hR.1 hR.2
          · omega
theorem frI_node {b o : Nat} {n : Pt} {l r : PTr} : frI (.node b o n l r) = if n.1 = 0 ∨ n.1 = 1 then bits .or .i64 (2 ^ n.2.1.toNat) (2 ^ n.2.2.toNat) else if n.1 = 2 then 2 ^ n.2.2.toNat else if arP n.1 = 1 then bits .andNot .i64 (frI l) (2 ^ n.2.1.toNat) else if arP n.1 = 2 then bits .or .i64 (frI l) (frI r) else 0 := rfl
theorem frI_sees {b o : Nat} {x y z : Int} {l r : PTr} (h : x = 0 ∨ x = 1) : frI (.node b o (x, y, z) l r) = bits .or .i64 (2 ^ y.toNat) (2 ^ z.toNat) := by simp [frI, h]
theorem frI_val {b o : Nat} {y z : Int} {l r : PTr} : frI (.node b o (2, y, z) l r) = 2 ^ z.toNat := by simp [frI]
theorem frI_none {b o : Nat} {x y z : Int} {l r : PTr} (h : arP x = 0) (h2 : ¬ (x = 0 ∨ x = 1 ∨ x = 2)) : frI (.node b o (x, y, z) l r) = 0 := by
  rw [frI_node]
  simp only
  rw [if_neg (by omega), if_neg (by omega), h]
  rfl
theorem frI_un {b o : Nat} {x y z : Int} {l r : PTr} (h : arP x = 1) : frI (.node b o (x, y, z) l r) = bits .andNot .i64 (frI l) (2 ^ y.toNat) := by
  have hx : ¬ (x = 0 ∨ x = 1) ∧ ¬ x = 2 := by
    constructor
    · rintro (rfl | rfl) <;> simp [arP] at h
    · rintro rfl; simp [arP] at h
  rw [frI_node]
  simp only
  rw [if_neg hx.1, if_neg hx.2, if_pos h]
theorem frI_bin {b o : Nat} {x y z : Int} {l r : PTr} (h : arP x = 2) : frI (.node b o (x, y, z) l r) = bits .or .i64 (frI l) (frI r) := by
  have hx : ¬ (x = 0 ∨ x = 1) ∧ ¬ x = 2 := by
    constructor
    · rintro (rfl | rfl) <;> simp [arP] at h
    · rintro rfl; simp [arP] at h
  rw [frI_node]
  simp only
  rw [if_neg hx.1, if_neg hx.2, if_neg (by omega), if_pos h]
theorem arP_one_iff {x : Int} (h : arP x = 1) : x = 7 ∨ x = 8 := by
  unfold arP at h
  split at h
  · omega
  · split at h
    · assumption
    · omega
theorem arP_two_iff {x : Int} (h : arP x = 2) : x = 4 ∨ x = 5 ∨ x = 6 := by
  unfold arP at h
  split at h
  · assumption
  · split at h <;> omega
end Go.Proofs.YtfedipeabbaccaaDoor
