/- Walks of what hands back the parts of a formula: the value is a piece of the formula's own memory. -/
import Derived.Test.YtmhkcicjbgifnaaGreatMForm

namespace Go.Proofs.YtmhkcicjbgifnaaGreat
open Go.RowKit

theorem cellsN_drop (ns : List Nd) (i : Nat) : cellsN (ns.drop i) = (cellsN ns).drop (i * 2) := by
  induction ns generalizing i with
  | nil => simp [cellsN]
  | cons n ns ih =>
    cases i with
    | zero => simp
    | succ i =>
      rw [List.drop_succ_cons, ih, show (i + 1) * 2 = i * 2 + 1 + 1 by omega]
      simp [cellsN, encN]

theorem cellsN_take (ns : List Nd) (i : Nat) : cellsN (ns.take i) = (cellsN ns).take (i * 2) := by
  induction ns generalizing i with
  | nil => simp [cellsN]
  | cons n ns ih =>
    cases i with
    | zero => simp [cellsN]
    | succ i =>
      rw [List.take_succ_cons, show (i + 1) * 2 = i * 2 + 1 + 1 by omega]
      simp only [cellsN, List.flatMap_cons, encN, List.cons_append, List.nil_append, List.take_succ_cons] at ih ⊢
      rw [ih]

/-- A piece of a slice, by its address. -/
theorem nodes_piece {w : World} {b o i m c : Nat} {a : Option Addr} {ns : List Nd} (hcell : ∀ j u, (cellsN ns)[j]? = some u → w.cell? ⟨b, o + j, none⟩ = some u) (hm : m ≤ c) (hc : m ≤ maxLen) (hi : i + m ≤ ns.length) (ha : 0 < m → a = some ⟨b, o + i * 2, none⟩) :
    Nodes w (.slice a m c) ((ns.drop i).take m) := by
  have hl : ((ns.drop i).take m).length = m := by simp; omega
  refine ⟨by rw [cellsN_length], by rw [hl]; exact hc, a, c, b, o + i * 2, by rw [hl], by rw [hl]; exact hm, by rw [hl]; exact ha, fun j u hu => ?_⟩
  rw [cellsN_take, cellsN_drop, List.getElem?_take] at hu
  split at hu
  · rw [List.getElem?_drop] at hu
    have := hcell _ _ hu
    rw [Nat.add_assoc]
    exact this
  · cases hu

theorem Nodes.raw {w : World} {v : Value} {ns : List Nd} (h : Nodes w v ns) (hp : 0 < ns.length) : ∃ c b o, v = .slice (some ⟨b, o, none⟩) ns.length c ∧ ns.length ≤ c ∧ ns.length ≤ maxLen ∧ Hid (∀ j u, (cellsN ns)[j]? = some u → w.cell? ⟨b, o + j, none⟩ = some u) := by
  obtain ⟨_, h2, a, c, b, o, hv, hc, ha, hcell⟩ := h
  have := ha hp
  subst this
  exact ⟨c, b, o, hv, hc, h2, hcell⟩

theorem part_any (v : Value) (ns : List Nd) (i m : Nat) (w : World) (h : Nodes w v ns) (he : partEndL ns i = ((i + m : Nat) : Int)) (hm : 0 < m) (hi : i + m ≤ ns.length) (hn : ns.length ≤ 4611686018427387904) :
    Calls Tryz.prog 77 #[v, .int .i64 i] w fun e w' => (∃ v', e = .returned v' ∧ Nodes w v' ((ns.drop i).take m)) ∧ w = w' := by
  have hv := Lib.hid h
  obtain ⟨c, b, o, rfl, hc, hcm, hcell⟩ := h.raw (by omega)
  clear h
  unfold maxLen at hcm
  have he := Lib.hid he
  go_enter Tryz.func77, Tryz.ntmps77
  go_wp2_with fail
  refine (partEnd_any _ ns _ _ hv.out (by omega) (by omega) (by omega)).mono ?_
  rintro e w' ⟨rfl, rfl⟩
  rw [Int.toNat_natCast, he.out]
  go_wp2_with fail
  refine (partEnd_any _ ns _ _ hv.out (by omega) (by omega) (by omega)).mono ?_
  rintro e w' ⟨rfl, rfl⟩
  rw [Int.toNat_natCast, he.out]
  go_wp2_with fail
  go_ret
  refine ⟨⟨_, rfl, ?_⟩, rfl⟩
  show Nodes _ (.slice (some ⟨b, o + i * 2, none⟩) (i + m - i) (i + m - i)) _
  rw [Nat.add_sub_cancel_left]
  exact nodes_piece hcell.out (Nat.le_refl _) (by unfold maxLen; omega) hi (fun _ => rfl)

theorem partEnd_first (n : Nd) (l r : Tr) (hl : okT l) : partEndL (n :: (flat l ++ flat r)) 1 = ((1 + (flat l).length : Nat) : Int) := by
  have := partEndL_at [n] (flat r) l hl
  simpa using this

theorem partEnd_second (n : Nd) (l r : Tr) (hr : okT r) : partEndL (n :: (flat l ++ flat r)) (1 + (flat l).length) = ((1 + (flat l).length + (flat r).length : Nat) : Int) := by
  have := partEndL_at (n :: flat l) [] r hr
  simp only [List.append_nil, List.cons_append, List.length_cons] at this
  rw [Nat.add_comm 1]
  rw [this]
  omega

theorem drop_first (n : Nd) (l r : List Nd) : ((n :: (l ++ r)).drop 1).take l.length = l := by simp
theorem drop_second (n : Nd) (l r : List Nd) : ((n :: (l ++ r)).drop (1 + l.length)).take r.length = r := by
  rw [Nat.add_comm, List.drop_succ_cons, List.drop_left, List.take_length]

theorem first_any (v : Value) (n : Nd) (l r : Tr) (w : World) (h : Nodes w v (n :: (flat l ++ flat r))) (hl : okT l) (hn : (flat l).length + (flat r).length ≤ 1000000) :
    Calls Tryz.prog 50 #[v] w fun e w' => (∃ v', e = .returned v' ∧ Nodes w v' (flat l)) ∧ w = w' := by
  have hp := flat_pos l hl
  have hd := Lib.hid (drop_first n (flat l) (flat r))
  have he := Lib.hid (partEnd_first n l r hl)
  go_enter Tryz.func50, Tryz.ntmps50
  go_wp2_with fail
  refine (part_any v _ 1 (flat l).length _ h he.out hp (by simp; omega) (by simp; omega)).mono ?_
  rintro e w' ⟨⟨v', rfl, h'⟩, rfl⟩
  rw [hd.out] at h'
  have h' := Lib.hid h'
  go_wp2_with fail
  go_ret
  exact ⟨⟨_, rfl, h'.out⟩, rfl⟩

theorem second_any (v : Value) (n : Nd) (l r : Tr) (w : World) (h : Nodes w v (n :: (flat l ++ flat r))) (hl : okT l) (hr : okT r) (hn : (flat l).length + (flat r).length ≤ 1000000) :
    Calls Tryz.prog 51 #[v] w fun e w' => (∃ v', e = .returned v' ∧ Nodes w v' (flat r)) ∧ w = w' := by
  have hp := flat_pos r hr
  have hd := Lib.hid (drop_second n (flat l) (flat r))
  have he := Lib.hid (partEnd_second n l r hr)
  have he1 := Lib.hid (partEnd_first n l r hl)
  go_enter Tryz.func51, Tryz.ntmps51
  go_wp2_with fail
  refine (partEnd_any v _ 1 _ h (by omega) (by simp; omega) (by simp; omega)).mono ?_
  rintro e w' ⟨rfl, rfl⟩
  rw [show (1 : Int).toNat = 1 from rfl, he1.out]
  go_wp2_with fail
  refine (part_any v _ (1 + (flat l).length) (flat r).length _ h he.out hp (by simp; omega) (by simp; omega)).mono ?_
  rintro e w' ⟨⟨v', rfl, h'⟩, rfl⟩
  rw [hd.out] at h'
  have h' := Lib.hid h'
  go_wp2_with fail
  go_ret
  exact ⟨⟨_, rfl, h'.out⟩, rfl⟩

theorem l02Left_any (v : Value) (n : Nd) (l r : Tr) (w : World) (h : Nodes w v (n :: (flat l ++ flat r))) (hl : okT l) (hn : (flat l).length + (flat r).length ≤ 1000000) :
    Calls Tryz.prog 62 #[v] w fun e w' => (∃ v', e = .returned v' ∧ Nodes w v' (flat l)) ∧ w = w' := by
  have hp := flat_pos l hl
  have hd := Lib.hid (drop_first n (flat l) (flat r))
  have he := Lib.hid (partEnd_first n l r hl)
  have hv := Lib.hid h
  have hlen : (n :: (flat l ++ flat r)).length = 1 + (flat l).length + (flat r).length := by simp; omega
  generalize hns : n :: (flat l ++ flat r) = ns at *
  have hns := Lib.hid hns
  obtain ⟨c, b, o, rfl, hc, hcm, hcell⟩ := h.raw (by omega)
  have hlen' : (flat l).length + 1 ≤ ns.length := by omega
  have hlen2 : ns.length ≤ 1000001 := by omega
  clear h hlen hns hcm
  go_enter Tryz.func62, Tryz.ntmps62
  go_wp2_with fail
  refine (l02Part_any _ ns 1 _ hv.out (by omega) (by omega) (by omega)).mono ?_
  rintro e w' ⟨rfl, rfl⟩
  rw [show (1 : Int).toNat = 1 from rfl, he.out]
  go_wp2_with fail
  go_ret
  refine ⟨⟨_, rfl, ?_⟩, rfl⟩
  show Nodes _ (.slice (some ⟨b, o + 1 * 2, none⟩) (1 + (flat l).length - 1) (c - 1)) _
  rw [Nat.add_sub_cancel_left]
  have := nodes_piece (i := 1) (m := (flat l).length) (c := c - 1) (a := some ⟨b, o + 1 * 2, none⟩) hcell.out (by omega) (by unfold maxLen; omega) (by omega) (fun _ => rfl)
  rw [hd.out] at this
  exact this

theorem l02Right_any (v : Value) (n : Nd) (l r : Tr) (w : World) (h : Nodes w v (n :: (flat l ++ flat r))) (hl : okT l) (hr : okT r) (hn : (flat l).length + (flat r).length ≤ 1000000) :
    Calls Tryz.prog 63 #[v] w fun e w' => (∃ v', e = .returned v' ∧ Nodes w v' (flat r)) ∧ w = w' := by
  have hp := flat_pos r hr
  have hd := Lib.hid (drop_second n (flat l) (flat r))
  have he := Lib.hid (partEnd_first n l r hl)
  have hv := Lib.hid h
  have hlen : (n :: (flat l ++ flat r)).length = 1 + (flat l).length + (flat r).length := by simp; omega
  generalize hns : n :: (flat l ++ flat r) = ns at *
  have hns := Lib.hid hns
  obtain ⟨c, b, o, rfl, hc, hcm, hcell⟩ := h.raw (by omega)
  have hlen' : 1 + (flat l).length + (flat r).length ≤ ns.length := by omega
  have hlen3 : ns.length ≤ 1 + (flat l).length + (flat r).length := by omega
  clear h hlen hns hcm
  go_enter Tryz.func63, Tryz.ntmps63
  go_wp2_with fail
  refine (l02Part_any _ ns 1 _ hv.out (by omega) (by omega) (by omega)).mono ?_
  rintro e w' ⟨rfl, rfl⟩
  rw [show (1 : Int).toNat = 1 from rfl, he.out]
  go_wp2_with fail
  go_ret
  refine ⟨⟨_, rfl, ?_⟩, rfl⟩
  show Nodes _ (.slice (some ⟨b, o + (1 + (flat l).length) * 2, none⟩) (ns.length - (1 + (flat l).length)) (c - (1 + (flat l).length))) _
  rw [show ns.length - (1 + (flat l).length) = (flat r).length by omega]
  have := nodes_piece (i := 1 + (flat l).length) (m := (flat r).length) (c := c - (1 + (flat l).length)) (a := some ⟨b, o + (1 + (flat l).length) * 2, none⟩) hcell.out (by omega) (by unfold maxLen; omega) (by omega) (fun _ => rfl)
  rw [hd.out] at this
  exact this

/-- What a formula's first node says, and a unary formula's part 'a[1:]', by the address. -/
theorem node_head {w : World} {b o : Nat} {n : Nd} {ns : List Nd} (hcell : ∀ j u, (cellsN (n :: ns))[j]? = some u → w.cell? ⟨b, o + j, none⟩ = some u) :
    w.cell? ⟨b, o, none⟩ = some (.int .i64 n.1) ∧ w.cell? ⟨b, o + 1, none⟩ = some (.int .i64 n.2) :=
  ⟨hcell 0 _ rfl, hcell 1 _ rfl⟩

theorem node_tail {w : World} {b o c : Nat} {n : Nd} {ns : List Nd} (hcell : ∀ j u, (cellsN (n :: ns))[j]? = some u → w.cell? ⟨b, o + j, none⟩ = some u) (hc : ns.length ≤ c) (hm : ns.length ≤ maxLen) :
    Nodes w (.slice (some ⟨b, o + 2, none⟩) ns.length c) ns := by
  have := nodes_piece (i := 1) (m := ns.length) (c := c) (a := some ⟨b, o + 1 * 2, none⟩) hcell hc hm (by simp; omega) (fun _ => rfl)
  simpa using this

/-- The cases of a tree that is a formula. -/
theorem tree_cases {t : Tr} (h : okT t) : ∃ n l r, flat t = n :: (flat l ++ flat r) ∧ ((ar n.1 = 0 ∧ l = .nil ∧ r = .nil ∧ flat t = [n]) ∨ (ar n.1 = 1 ∧ okT l ∧ r = .nil ∧ flat t = n :: flat l) ∨ (ar n.1 = 2 ∧ okT l ∧ okT r)) := by
  cases t with
  | nil => exact h.elim
  | node _ _ n l r =>
    refine ⟨n, l, r, rfl, ?_⟩
    rcases h with ⟨h1, rfl, rfl⟩ | ⟨h1, h2, rfl⟩ | h3
    · exact .inl ⟨h1, rfl, rfl, rfl⟩
    · exact .inr (.inl ⟨h1, h2, rfl, by simp [flat]⟩)
    · exact .inr (.inr h3)

theorem Nodes.shape {w : World} {v : Value} {ns : List Nd} (h : Nodes w v ns) : ∃ a c, v = .slice a ns.length c := by
  obtain ⟨_, _, a, c, b, o, hv, _⟩ := h
  exact ⟨a, c, hv⟩

end Go.Proofs.YtmhkcicjbgifnaaGreat
