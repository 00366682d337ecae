/- Walks of modelsOf, l04Value, l04Table, l04First, and of IsTautology. -/
import Derived.Test.YtmhkcicjbgifnaaGreatMClass
import Derived.Deep.RegionLaw
import Derived.Deep.AppendLies

namespace Go.Proofs.YtmhkcicjbgifnaaGreat
open Go.RowKit Go.Deep

theorem valT_var {b o : Nat} {y : Int} {l r : Tr} (i : Nat) : valT (.node b o (0, y) l r) i = i.testBit y.toNat := by simp [valT]
theorem valT_false {b o : Nat} {y : Int} {l r : Tr} (i : Nat) : valT (.node b o (1, y) l r) i = false := by simp [valT]
theorem valT_and {b o : Nat} {y : Int} {l r : Tr} (i : Nat) : valT (.node b o (2, y) l r) i = (valT l i && valT r i) := by simp [valT]
theorem valT_or {b o : Nat} {y : Int} {l r : Tr} (i : Nat) : valT (.node b o (3, y) l r) i = (valT l i || valT r i) := by simp [valT]
theorem valT_imp {b o : Nat} {y : Int} {l r : Tr} (i : Nat) : valT (.node b o (4, y) l r) i = (!valT l i || valT r i) := by simp [valT]

def rowsT (t : Tr) : Int := (rowsOf (valT t) 64 : Nat)
theorem rowsT_bounds (t : Tr) : 0 ≤ rowsT t ∧ rowsT t < 18446744073709551616 := by
  have := rows64_lt (valT t)
  unfold rowsT
  omega
theorem rowsT_and {b o : Nat} {y : Int} {l r : Tr} : bits BinOp.and IntKind.u64 (rowsT l) (rowsT r) = rowsT (.node b o (2, y) l r) := by
  unfold rowsT
  rw [u64_and_nat _ _ (rows64_lt _) (rows64_lt _), rows_and]
  congr 2
theorem rowsT_or {b o : Nat} {y : Int} {l r : Tr} : bits BinOp.or IntKind.u64 (rowsT l) (rowsT r) = rowsT (.node b o (3, y) l r) := by
  unfold rowsT
  rw [u64_or_nat _ _ (rows64_lt _) (rows64_lt _), rows_or]
  congr 2
theorem rows_flip (p : Nat → Bool) : 18446744073709551615 ^^^ rowsOf p 64 = rowsOf (fun i => !p i) 64 := by
  apply Nat.eq_of_testBit_eq
  intro i
  rw [Nat.testBit_xor, show (18446744073709551615 : Nat) = 2 ^ 64 - 1 from rfl, Nat.testBit_two_pow_sub_one, rowsOf_bit, rowsOf_bit]
  cases decide (i < 64) <;> simp
theorem u64_max : IntKind.u64.max = ((18446744073709551615 : Nat) : Int) := by decide
theorem rowsT_imp {b o : Nat} {y : Int} {l r : Tr} : bits BinOp.or IntKind.u64 (bits BinOp.xor IntKind.u64 IntKind.u64.max (rowsT l)) (rowsT r) = rowsT (.node b o (4, y) l r) := by
  unfold rowsT
  rw [u64_max, u64_xor_nat _ _ (by omega) (rows64_lt _), rows_flip, u64_or_nat _ _ (rows64_lt _) (rows64_lt _), rows_or]
  congr 2

set_option maxHeartbeats 2000000 in
theorem modelsOf_any (t : Tr) : ∀ (v : Value) (w : World), okT t → plainT t → Nodes w v (flat t) → (flat t).length ≤ 1000000 →
    Calls Tryz.prog 22 #[v] w fun e w' => e = .returned (.int .u64 (rowsT t)) ∧ w = w' := by
  induction t with
  | nil => intro v w h; exact h.elim
  | node b0 o0 n l r ihl ihr =>
    intro v w ht hp h hn
    have IHL := Lib.hid ihl
    have IHR := Lib.hid ihr
    clear ihl ihr
    have hv := Lib.hid h
    obtain ⟨x, y⟩ := n
    have hlen : (flat (.node b0 o0 (x, y) l r)).length = 1 + (flat l).length + (flat r).length := by simp [flat]; omega
    obtain ⟨c, b, o, rfl, hc, hcm, hcell⟩ := h.raw (by omega)
    obtain ⟨hc0, hc1⟩ := node_head hcell.out
    simp only at hc0 hc1
    have hpos : 0 < (flat (.node b0 o0 (x, y) l r)).length := by omega
    have hpl := Lib.hid (plainT_left hp)
    have hpr := Lib.hid (plainT_right hp)
    clear h hcm hcell
    rcases plain_cases ht hp with ⟨rfl, rfl, rfl, y0, y5⟩ | ⟨rfl, rfl, rfl⟩ | ⟨hx, h2, h3⟩
    · have hf := Lib.hid (show rowsT (.node b0 o0 (0, y) .nil .nil) = (rowsOf (fun i => i.testBit y.toNat) 64 : Nat) from by unfold rowsT; congr 2)
      clear hlen hn hc ht hp
      generalize (flat (.node b0 o0 (0, y) .nil .nil)).length = m at *
      go_enter Tryz.func22, Tryz.ntmps22
      go_wp2_with fail
      refine (variableRows_any y _ y0 y5).mono ?_
      rintro e w' ⟨rfl, rfl⟩
      go_wp2_with fail
      go_ret
      exact ⟨ret_int hf.out.symm, rfl⟩
    · have hf := Lib.hid (show rowsT (.node b0 o0 (1, y) .nil .nil) = 0 from by
        unfold rowsT
        rw [show (valT (.node b0 o0 (1, y) .nil .nil)) = fun _ => false from funext fun i => valT_false i, rows_none]; rfl)
      clear hlen hn hc ht hp
      generalize (flat (.node b0 o0 (1, y) .nil .nil)).length = m at *
      go_enter Tryz.func22, Tryz.ntmps22
      go_wp2_with fail
      go_ret
      exact ⟨ret_int hf.out.symm, rfl⟩
    · have hnn : (flat l).length + (flat r).length ≤ 1000000 := by omega
      have hfl : flat (.node b0 o0 (x, y) l r) = (x, y) :: (flat l ++ flat r) := rfl
      rw [hfl] at hv hpos ⊢
      clear hlen hn hc hfl ht hp
      generalize ((x, y) :: (flat l ++ flat r)).length = m at *
      rcases hx with rfl | rfl | rfl
      · have hfin := Lib.hid (rowsT_and (b := b0) (o := o0) (y := y) (l := l) (r := r))
        go_enter Tryz.func22, Tryz.ntmps22
        go_wp2_with fail
        refine (first_any _ (_, y) l r _ hv.out h2 hnn).mono ?_
        rintro e w' ⟨⟨vl, rfl, hvl⟩, rfl⟩
        have hvl := Lib.hid hvl
        go_wp2_with fail
        refine (IHL.out _ _ h2 hpl.out hvl.out (by omega)).mono ?_
        rintro e w' ⟨rfl, rfl⟩
        go_wp2_with fail
        refine (second_any _ (_, y) l r _ hv.out h2 h3 hnn).mono ?_
        rintro e w' ⟨⟨vr, rfl, hvr⟩, rfl⟩
        have hvr := Lib.hid hvr
        go_wp2_with fail
        refine (IHR.out _ _ h3 hpr.out hvr.out (by omega)).mono ?_
        rintro e w' ⟨rfl, rfl⟩
        go_wp2_with fail
        go_ret
        exact ⟨ret_int hfin.out, rfl⟩
      · have hfin := Lib.hid (rowsT_or (b := b0) (o := o0) (y := y) (l := l) (r := r))
        go_enter Tryz.func22, Tryz.ntmps22
        go_wp2_with fail
        refine (first_any _ (_, y) l r _ hv.out h2 hnn).mono ?_
        rintro e w' ⟨⟨vl, rfl, hvl⟩, rfl⟩
        have hvl := Lib.hid hvl
        go_wp2_with fail
        refine (IHL.out _ _ h2 hpl.out hvl.out (by omega)).mono ?_
        rintro e w' ⟨rfl, rfl⟩
        go_wp2_with fail
        refine (second_any _ (_, y) l r _ hv.out h2 h3 hnn).mono ?_
        rintro e w' ⟨⟨vr, rfl, hvr⟩, rfl⟩
        have hvr := Lib.hid hvr
        go_wp2_with fail
        refine (IHR.out _ _ h3 hpr.out hvr.out (by omega)).mono ?_
        rintro e w' ⟨rfl, rfl⟩
        go_wp2_with fail
        go_ret
        exact ⟨ret_int hfin.out, rfl⟩
      · have hfin := Lib.hid (rowsT_imp (b := b0) (o := o0) (y := y) (l := l) (r := r))
        go_enter Tryz.func22, Tryz.ntmps22
        go_wp2_with fail
        refine (first_any _ (_, y) l r _ hv.out h2 hnn).mono ?_
        rintro e w' ⟨⟨vl, rfl, hvl⟩, rfl⟩
        have hvl := Lib.hid hvl
        go_wp2_with fail
        refine (IHL.out _ _ h2 hpl.out hvl.out (by omega)).mono ?_
        rintro e w' ⟨rfl, rfl⟩
        go_wp2_with fail
        refine (second_any _ (_, y) l r _ hv.out h2 h3 hnn).mono ?_
        rintro e w' ⟨⟨vr, rfl, hvr⟩, rfl⟩
        have hvr := Lib.hid hvr
        go_wp2_with fail
        refine (IHR.out _ _ h3 hpr.out hvr.out (by omega)).mono ?_
        rintro e w' ⟨rfl, rfl⟩
        go_wp2_with fail
        go_ret
        refine ⟨ret_int ?_, rfl⟩
        exact hfin.out

set_option maxHeartbeats 2000000 in
theorem l04Value_any (t : Tr) : ∀ (v : Value) (k : Nat) (w : World), k ≤ 63 → okT t → plainT t → Nodes w v (flat t) → (flat t).length ≤ 1000000 →
    Calls Tryz.prog 36 #[v, .int .i64 k] w fun e w' => e = .returned (.bool (valT t k)) ∧ w = w' := by
  induction t with
  | nil => intro v k w _ h; exact h.elim
  | node b0 o0 n l r ihl ihr =>
    intro v k w hk ht hp h hn
    have IHL := Lib.hid ihl
    have IHR := Lib.hid ihr
    clear ihl ihr
    have hv := Lib.hid h
    obtain ⟨x, y⟩ := n
    have hlen : (flat (.node b0 o0 (x, y) l r)).length = 1 + (flat l).length + (flat r).length := by simp [flat]; omega
    obtain ⟨c, b, o, rfl, hc, hcm, hcell⟩ := h.raw (by omega)
    obtain ⟨hc0, hc1⟩ := node_head hcell.out
    simp only at hc0 hc1
    have hpos : 0 < (flat (.node b0 o0 (x, y) l r)).length := by omega
    have hpl := Lib.hid (plainT_left hp)
    have hpr := Lib.hid (plainT_right hp)
    clear h hcm hcell
    rcases plain_cases ht hp with ⟨rfl, rfl, rfl, y0, y5⟩ | ⟨rfl, rfl, rfl⟩ | ⟨hx, h2, h3⟩
    · have hf := Lib.hid (show valT (.node b0 o0 (0, y) .nil .nil) k = hasB (k : Int) y from by rw [valT_var]; simp [hasB])
      clear hlen hn hc ht hp
      generalize (flat (.node b0 o0 (0, y) .nil .nil)).length = m at *
      go_enter Tryz.func36, Tryz.ntmps36
      go_wp2_with fail
      refine (l01Bit_any _ y (by omega) (by omega) y0 (by omega) _).mono ?_
      rintro e w' ⟨rfl, rfl⟩
      go_wp2_with fail
      go_ret
      exact ⟨ret_bool hf.out.symm, rfl⟩
    · have hf := Lib.hid (show valT (.node b0 o0 (1, y) .nil .nil) k = false from valT_false k)
      clear hlen hn hc ht hp
      generalize (flat (.node b0 o0 (1, y) .nil .nil)).length = m at *
      go_enter Tryz.func36, Tryz.ntmps36
      go_wp2_with fail
      go_ret
      exact ⟨ret_bool hf.out.symm, rfl⟩
    · have hnn : (flat l).length + (flat r).length ≤ 1000000 := by omega
      have hfl : flat (.node b0 o0 (x, y) l r) = (x, y) :: (flat l ++ flat r) := rfl
      rw [hfl] at hv hpos ⊢
      clear hlen hn hc hfl ht hp
      generalize ((x, y) :: (flat l ++ flat r)).length = m at *
      have hv1 : Hid (valT l k = valT l k) := rfl
      rcases hx with rfl | rfl | rfl
      · have hfin := Lib.hid (valT_and (b := b0) (o := o0) (y := y) (l := l) (r := r) k)
        cases hL : valT l k
        all_goals
          have hLh := Lib.hid hL
          clear hL
          go_enter Tryz.func36, Tryz.ntmps36
          go_wp2_with fail
          refine (l02Left_any _ (_, y) l r _ hv.out h2 hnn).mono ?_
          rintro e w' ⟨⟨vl, rfl, hvl⟩, rfl⟩
          have hvl := Lib.hid hvl
          go_wp2_with fail
          refine (IHL.out _ _ _ hk h2 hpl.out hvl.out (by omega)).mono ?_
          rintro e w' ⟨rfl, rfl⟩
          rw [hLh.out]
          go_wp2_with fail
          first
            | (go_ret
               exact ⟨ret_bool (by rw [hfin.out, hLh.out]; rfl), rfl⟩)
            | (refine (l02Right_any _ (_, y) l r _ hv.out h2 h3 hnn).mono ?_
               rintro e w' ⟨⟨vr, rfl, hvr⟩, rfl⟩
               have hvr := Lib.hid hvr
               go_wp2_with fail
               refine (IHR.out _ _ _ hk h3 hpr.out hvr.out (by omega)).mono ?_
               rintro e w' ⟨rfl, rfl⟩
               go_wp2_with fail
               go_ret
               exact ⟨ret_bool (by rw [hfin.out, hLh.out]; rfl), rfl⟩)
      · have hfin := Lib.hid (valT_or (b := b0) (o := o0) (y := y) (l := l) (r := r) k)
        cases hL : valT l k
        all_goals
          have hLh := Lib.hid hL
          clear hL
          go_enter Tryz.func36, Tryz.ntmps36
          go_wp2_with fail
          refine (l02Left_any _ (_, y) l r _ hv.out h2 hnn).mono ?_
          rintro e w' ⟨⟨vl, rfl, hvl⟩, rfl⟩
          have hvl := Lib.hid hvl
          go_wp2_with fail
          refine (IHL.out _ _ _ hk h2 hpl.out hvl.out (by omega)).mono ?_
          rintro e w' ⟨rfl, rfl⟩
          rw [hLh.out]
          go_wp2_with fail
          first
            | (go_ret
               exact ⟨ret_bool (by rw [hfin.out, hLh.out]; rfl), rfl⟩)
            | (refine (l02Right_any _ (_, y) l r _ hv.out h2 h3 hnn).mono ?_
               rintro e w' ⟨⟨vr, rfl, hvr⟩, rfl⟩
               have hvr := Lib.hid hvr
               go_wp2_with fail
               refine (IHR.out _ _ _ hk h3 hpr.out hvr.out (by omega)).mono ?_
               rintro e w' ⟨rfl, rfl⟩
               go_wp2_with fail
               go_ret
               exact ⟨ret_bool (by rw [hfin.out, hLh.out]; rfl), rfl⟩)
      · have hfin := Lib.hid (valT_imp (b := b0) (o := o0) (y := y) (l := l) (r := r) k)
        cases hL : valT l k
        all_goals
          have hLh := Lib.hid hL
          clear hL
          go_enter Tryz.func36, Tryz.ntmps36
          go_wp2_with fail
          refine (l02Left_any _ (_, y) l r _ hv.out h2 hnn).mono ?_
          rintro e w' ⟨⟨vl, rfl, hvl⟩, rfl⟩
          have hvl := Lib.hid hvl
          go_wp2_with fail
          refine (IHL.out _ _ _ hk h2 hpl.out hvl.out (by omega)).mono ?_
          rintro e w' ⟨rfl, rfl⟩
          rw [hLh.out]
          go_wp2_with fail
          first
            | (go_ret
               exact ⟨ret_bool (by rw [hfin.out, hLh.out]; rfl), rfl⟩)
            | (refine (l02Right_any _ (_, y) l r _ hv.out h2 h3 hnn).mono ?_
               rintro e w' ⟨⟨vr, rfl, hvr⟩, rfl⟩
               have hvr := Lib.hid hvr
               go_wp2_with fail
               refine (IHR.out _ _ _ hk h3 hpr.out hvr.out (by omega)).mono ?_
               rintro e w' ⟨rfl, rfl⟩
               go_wp2_with fail
               go_ret
               exact ⟨ret_bool (by rw [hfin.out, hLh.out]; rfl), rfl⟩)

/-- A slice of bool. -/
def Bools (w : World) (v : Value) (xs : List Bool) : Prop := Reads w 1 v xs.length (xs.map Value.bool)
theorem Bools.below {w w' : World} {v : Value} {xs : List Bool} {K : Nat} (h : Bools w v xs) (hb : Below K w w') (hk : w.heap.size ≤ K) : Bools w' v xs := Reads.below h hb hk
theorem bools_of_own {w : World} {B : Nat} {e : TypeId} {v : Value} {n : Nat} {xs : List Bool} (h : w.ownsRow B e 1 v n (xs.map Value.bool)) : Bools w v xs := by
  have hn : n = xs.length := by have := h.1; simp at this; omega
  subst hn
  exact reads_of_own h
theorem Bools.opened {w : World} {v : Value} {xs : List Bool} (h : Bools w v xs) : xs.length ≤ maxLen ∧ ∃ a c b o, v = .slice a xs.length c ∧ xs.length ≤ c ∧ (xs.length ≤ 0 ∨ 0 < xs.length ∧ a = some ⟨b, o, none⟩) ∧
    Hid (∀ k, k < xs.length → ∃ x, xs[k]? = some x ∧ w.cell? ⟨b, o + k, none⟩ = some (.bool x)) := by
  obtain ⟨_, h2, a, c, b, o, hv, hc, ha, hcell⟩ := h
  refine ⟨h2, a, c, b, o, hv, hc, ?_, fun k hk => ⟨xs[k], by simp [hk], hcell k _ (by simp [hk])⟩⟩
  rcases Nat.eq_zero_or_pos xs.length with h | h
  · exact .inl (by omega)
  · exact .inr ⟨h, ha h⟩

theorem info_bool : (Tryz.prog.info? 4).map (fun i => (i.zero, i.size, i.bytes)) = some (some (.bool false), 1, 1) := by kernel_rfl

set_option maxHeartbeats 1600000 in
theorem l04Table_any (t : Tr) (v : Value) (w : World) (ht : okT t) (hp : plainT t) (h : Nodes w v (flat t)) (hn : (flat t).length ≤ 1000000) :
    Calls Tryz.prog 18 #[v] w fun e w' => ∃ v', e = .returned v' ∧ w'.ownsRow w.heap.size 4 1 v' 64 ((tabL (valT t) 64).map Value.bool) ∧ Below w.heap.size w w' := by
  obtain ⟨i0, hi, hz0, hz1, hz2⟩ := info_parts info_bool
  have hI := Lib.hid (And.intro hi (And.intro hz0 (And.intro hz1 hz2)))
  clear hi hz0 hz1 hz2
  have hval := Lib.hid (fun w' (hb : Below w.heap.size w w') (k : Nat) (hk : k ≤ 63) => l04Value_any t v k w' hk ht hp (h.below hb (Nat.le_refl _)) hn)
  clear h
  go_enter Tryz.func18, Tryz.ntmps18
  go_wp2_with fail
  go_loopw [3, 4] (fun u i wr => ∃ k : Nat, k ≤ 64 ∧ i = .int .i64 k ∧ wr.ownsRow w.heap.size 4 1 u k ((tabL (valT t) k).map Value.bool) ∧ Below w.heap.size w wr) (fun _ i _ => 64 - (intOf i).toNat)
  case atStart => exact ⟨0, by omega, rfl, by rw [show tabL (valT t) 0 = [] from rfl]; simpa using World.ownsRow_lit w #[] 0 (Nat.le_refl _) (by simp [maxLen]) rfl, (Below.refl _ _).alloc (Nat.le_refl _) _⟩
  case round =>
    obtain ⟨k, hk, rfl, ho, hb⟩ := hrel
    by_cases hlt : k < 64
    · have hs := Lib.hid (tabL_succ (valT t) k)
      have hsz := hb.size
      have ho := Lib.hid ho
      go_wp2_with fail
      refine (hval.out _ hb k (by omega)).mono ?_
      rintro e w' ⟨rfl, rfl⟩
      generalize valT t k = bv at *
      go_wp2_with (at_builtin; refine wpList_append_own _ rfl _ _ 37 rfl w.heap.size 4 i0 (.bool false) 1 1 Tryz.underlying37 hI.out.1 hI.out.2.1 hI.out.2.2.1 hI.out.2.2.2 rfl (by decide) _ _ _ rfl (ho.out.alloc _) ⟨wr.heap.size, 0, none⟩ 1 1 [.bool bv] rfl rfl (cell_one_new _ _ _) (by intro u hu; simp at hu; subst hu; rfl) (by unfold maxLen; omega) (by omega) (by simp; omega) ?_; intro v' w1 hown' hgrow _)
      go_roundw
      case rel =>
        refine ⟨k + 1, by omega, by go_num, ?_, ?_⟩
        · rw [hs.out]; simpa using hown'
        · exact (hb.alloc (by omega) _).grown hgrow (by simp; omega) (fun j hj => (ho.out.lt j hj).1)
      case measure => simp [intOf]; omega
    · obtain rfl : k = 64 := by omega
      have ho := Lib.hid ho
      go_wp2_with fail
      go_ret
      exact ⟨_, rfl, ho.out, hb⟩

end Go.Proofs.YtmhkcicjbgifnaaGreat
