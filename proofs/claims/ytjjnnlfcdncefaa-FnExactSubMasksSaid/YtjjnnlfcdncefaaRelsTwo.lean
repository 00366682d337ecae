/- Walks of ReflexiveClosure and InverseRelation, of the program and of the reference. -/
import Derived.Test.YtjjnnlfcdncefaaRels
import Derived.Lib.SliceRun
import Derived.Deep.RegionLaw
import Derived.Deep.AppendLies
namespace Go.Proofs.Ytjjnnlfcdncefaa
open Go.RowKit

theorem still_eq {P : Program} {f : FuncId} {args : Array Value} {w : World} {v : Value} (h : Calls P f args w fun e w' => e = .returned v ∧ w = w') : Calls P f args w fun e w' => e = .returned v ∧ w' = w :=
  h.mono fun _ _ ⟨he, hm⟩ => ⟨he, hm.symm⟩

theorem cloneI_any (v : Value) (xs : List Int) (w : World) (h : Ints w v xs) (hn : xs.length ≤ 1000000) :
    Calls Try.prog 89 #[v] w fun e w' => ∃ v', e = .returned v' ∧ w'.ownsRow w.heap.size 2 1 v' xs.length (xs.map (Value.int .i64)) ∧ Below w.heap.size w w' := by
  obtain ⟨i0, hi, hz0, hz1, hz2⟩ := info_parts info_i64
  have hnil : ∀ (w : World) (a : Option Addr) (n c n' c' : Nat), (binOp .eql 22 (.slice a n c) (.slice none n' c')).run Try.prog w = .ok (.bool a.isNone) w := fun w a n c n' c' => Lib.run_eql_slice_nil w _ _ a n c n' c' Try.underlying22
  have hq := h
  obtain ⟨_, h2, a, c, b, o, rfl, hc, ha, hcell⟩ := h
  cases a with
  | none =>
    have h0 : xs.length = 0 := by
      rcases Nat.eq_zero_or_pos xs.length with h | h
      · exact h
      · have := ha h; cases this
    have hx : xs = [] := List.eq_nil_of_length_eq_zero h0
    subst hx
    clear ha hcell hq h0 h2 hc
    go_enter Try.func89, Try.ntmps89
    go_wp2_with fail
    go_ret
    exact ⟨_, rfl, World.ownsRow_nil _ _ _ _, Below.refl _ _⟩
  | some p =>
    have hba := Lib.hid ((Below.refl w.heap.size w).alloc (Nat.le_refl _) (.cells #[] 2))
    have hsrc := Lib.hid (show ∀ j q, (xs.map (Value.int .i64))[j]? = some q → (w.alloc (.cells #[] 2)).cell? (p.add j) = some q from fun j q hjq => by
      have hj : j < xs.length := by simpa using (List.getElem?_eq_some_iff.1 hjq).1
      obtain rfl := Option.some.inj (ha (by omega))
      have h1 := hcell j q hjq
      rw [Addr.add_lit]
      exact (hba.out.cell (p := ⟨b, o + j, none⟩) (World.block_lt_of_cell? w _ h1)).trans h1)
    have hlen := Lib.hid (show (xs.map (Value.int .i64)).length = xs.length * 1 by simp)
    have hl0 := Lib.hid (World.ownsRow_lit (e := 2) (base := w.heap.size) (size := 1) w #[] 0 (Nat.le_refl _) (by simp [maxLen]) rfl)
    have hone := Lib.hid (ints_oneCell .i64 xs)
    clear ha hcell hq h2
    generalize hm : xs.length = m at *
    have hm := Lib.hid hm
    go_enter Try.func89, Try.ntmps89
    go_wp2_with (at_builtin; refine wpList_append_own _ rfl _ _ 22 rfl w.heap.size 2 i0 (.int .i64 0) 1 8 Try.underlying22 hi hz0 hz1 hz2 rfl (by decide) _ _ _ rfl hl0.out p m c (xs.map (Value.int .i64)) rfl hlen.out hsrc.out hone.out (by unfold maxLen; omega) (by omega) (by simp) ?_; intro v' w1 hown' hgrow _)
    go_ret
    refine ⟨v', rfl, ?_, ?_⟩
    · simpa using hown'
    · exact hba.out.grown hgrow (by simp) (fun j hj => (hl0.out.lt j hj).1)

theorem mid_get {α : Type} {ys bs : List α} {k : Nat} {z x : α} (h : (ys.take k ++ bs.drop k)[k]? = some z) (hx : bs[k]? = some x) (hl : k ≤ ys.length) : z = x := by
  rw [List.getElem?_append_right (by simp; omega)] at h
  rw [List.length_take, Nat.min_eq_left hl, Nat.sub_self, List.getElem?_drop, Nat.add_zero, hx] at h
  exact (Option.some.inj h).symm

set_option maxHeartbeats 1000000 in
theorem reflexive_any (v : Value) (xs : List Int) (w : World) (h : Ints w v xs) (hl : xs.length ≤ 30) (hx : ∀ (i : Nat) (x : Int), xs[i]? = some x → 0 ≤ x ∧ x < 1073741824 ∧ x.toNat < 2 ^ xs.length) :
    Calls Try.prog 57 #[v] w fun e w' => ∃ v', e = .returned v' ∧ w'.ownsRow w.heap.size 2 1 v' xs.length ((reflR xs).map (Value.int .i64)) ∧ Below w.heap.size w w' := by
  have hx := Lib.hid hx
  have hrl := Lib.hid (reflR_length xs)
  go_enter Try.func57, Try.ntmps57
  go_wp2_with fail
  refine (cloneI_any _ xs _ h (by omega)).mono ?_
  rintro e w1 ⟨v1, rfl, ho1, b1⟩
  clear h
  rcases ho1.2 with ⟨rfl, hn0⟩ | ⟨g, cap, cur, rfl, hB, hg, hnc, hcm, _, _⟩
  · have hx0 : xs = [] := List.eq_nil_of_length_eq_zero hn0
    subst hx0
    clear hx hrl hn0
    go_wp2_with fail
    refine wp_loop_rounds 1 ?_
    rw [rounds_succ]
    go_wp2_with fail
    go_ret
    exact ⟨_, rfl, ho1, b1⟩
  · clear hg
    go_wp2_with fail
    go_loopw [9] (fun i wr => ∃ k : Nat, k ≤ xs.length ∧ i = .int .i64 k ∧ wr.ownsRow w.heap.size 2 1 (.slice (some ⟨g, 0, none⟩) xs.length cap) xs.length (((reflR xs).take k ++ xs.drop k).map (Value.int .i64)) ∧ Below w.heap.size w wr) (fun i _ => xs.length - (intOf i).toNat)
    case atStart => exact ⟨0, Nat.zero_le _, rfl, by simpa using ho1, b1⟩
    case round =>
      obtain ⟨k, hk, rfl, ho, hb⟩ := hrel
      by_cases hlt : k < xs.length
      · obtain ⟨⟨z, hz, hcz⟩, hfz⟩ := own_cell ho hlt
        have hxk : xs[k]? = some xs[k] := by simp [hlt]
        obtain rfl := mid_get hz hxk (by rw [hrl.out]; omega)
        obtain ⟨x0, x1, _⟩ := hx.out k _ hxk
        have hrg := reflR_get hxk
        generalize xs[k] = z at *
        have hs := or30_pow z k x0 x1 (by omega)
        have hs1 := Lib.hid (show (reflR xs)[k]? = some (bits BinOp.or IntKind.i64 z (2 ^ k)) by rw [hrg, hs.1])
        obtain ⟨hp1, hp2⟩ := pow_nat_bounds k (by omega)
        have ho := Lib.hid ho
        clear hs hxk hz hrg
        go_wp2
        go_region
        all_goals
          go_wp2
          go_roundw
          case rel => exact ⟨k + 1, by omega, by go_num, own_store ho.out hs1.out (by omega), Below.drew (hb.setCell hB _)⟩
          case measure => simp [intOf]; omega
      · obtain rfl : k = xs.length := by omega
        have ho := Lib.hid ho
        go_wp2
        go_ret
        refine ⟨_, rfl, ?_, hb⟩
        have := ho.out
        rw [List.drop_of_length_le (by omega), List.append_nil, List.take_of_length_le (by rw [hrl.out]; omega)] at this
        exact this

set_option maxRecDepth 100000 in
set_option maxHeartbeats 1000000 in
theorem l01Reflexive_any (v : Value) (xs : List Int) (w : World) (h : Ints w v xs) (hl : xs.length ≤ 30) (hx : ∀ (i : Nat) (x : Int), xs[i]? = some x → 0 ≤ x ∧ x < 1073741824 ∧ x.toNat < 2 ^ xs.length) :
    Calls Try.prog 55 #[v] w fun e w' => ∃ v', e = .returned v' ∧ w'.ownsRow w.heap.size 2 1 v' xs.length ((reflR xs).map (Value.int .i64)) ∧ Below w.heap.size w w' := by
  have hx := Lib.hid hx
  have hrl := Lib.hid (reflR_length xs)
  obtain ⟨i0, hi, hz0, hz1, hz2⟩ := info_parts info_i64
  obtain ⟨_, a, c, b, o, rfl, hc, hz, hcell⟩ := h.opened
  clear h
  rcases hz with hz | ⟨hz, rfl⟩
  all_goals
    go_enter Try.func55, Try.ntmps55
    go_wp2_with fail
    go_loopw [3, 4] (fun u i wr => ∃ k : Nat, k ≤ xs.length ∧ i = .int .i64 k ∧ wr.ownsRow w.heap.size 2 1 u k (((reflR xs).take k).map (Value.int .i64)) ∧ Below w.heap.size w wr) (fun _ i _ => xs.length - (intOf i).toNat)
    case atStart => exact ⟨0, Nat.zero_le _, rfl, by simpa using World.ownsRow_lit w #[] 0 (Nat.le_refl _) (by simp [maxLen]) rfl, (Below.refl _ _).alloc (Nat.le_refl _) _⟩
    case round =>
      obtain ⟨k, hk, rfl, ho, hb⟩ := hrel
      by_cases hlt : k < xs.length
      · all_goals try (exfalso; omega)
        all_goals
          obtain ⟨z, hxk, hcx⟩ := hcell.out k hlt
          have hcx := (hb.cell (p := ⟨b, o + k, none⟩) (World.block_lt_of_cell? w _ hcx)).trans hcx
          obtain ⟨x0, x1, _⟩ := hx.out k _ hxk
          have hrg := reflR_get hxk
          have hs := or30_pow z k x0 x1 (by omega)
          have hs1 := Lib.hid (show (reflR xs)[k]? = some (bits BinOp.or IntKind.i64 z (2 ^ k)) by rw [hrg, hs.1])
          have hs2 := Lib.hid (show (reflR xs).take (k + 1) = (reflR xs).take k ++ [bits BinOp.or IntKind.i64 z (2 ^ k)] by rw [List.take_add_one, hs1.out]; rfl)
          clear hs hxk hrg
          have hsz := hb.size
          go_wp2_with fail
          have ho2 : wr.drew.ownsRow w.heap.size 2 1 u3 k (((reflR xs).take k).map (Value.int .i64)) := ho
          have hb2 : Below w.heap.size w wr.drew := hb.drew
          have ho2 := Lib.hid ho2
          have ho := Lib.hid ho
          go_region_law (first | (refine step_append_lies _ (by rfl) _ _ _ (by rfl) w.heap.size 2 i0 _ 1 8 Try.underlying22 hi hz0 hz1 hz2 rfl (by omega) u3 k _ (by rfl) (ho2.out.alloc _) ⟨wr.heap.size, 0, none⟩ 1 1 [.int .i64 (bits BinOp.or IntKind.i64 z (2 ^ k))] (by rfl) (by rfl) (World.news_of_block (cs := #[.int .i64 (bits BinOp.or IntKind.i64 z (2 ^ k))]) (t := 2) (fr := (0, 0)) (heap_alloc_new _ _)) (by simp [Value.oneCell']) (by omega) (by unfold maxLen; omega) (by omega) (by simp; omega) (wr.heap.size + 1) (by simp) ?_; intro gg cap w1 hown' hgrow hat hlt) | (go_simp; go_at_call 81; refine (l01One_any _ (by omega) (by omega) _).mono ?_; rintro e w' ⟨rfl, rfl⟩))
          all_goals
            go_wp2_with fail
            go_roundw
            case rel =>
              refine ⟨k + 1, by omega, by go_num, ?_, ?_⟩
              · rw [hs2.out]; simpa using hown'
              · exact (hb2.alloc (by simpa using hsz) _).grown hgrow (by simp; omega) (fun j hj => (ho2.out.lt j hj).1)
            case measure => simp [intOf]; omega
      · obtain rfl : k = xs.length := by omega
        have ho := Lib.hid ho
        go_wp2_with fail
        go_ret
        refine ⟨_, rfl, ?_, hb⟩
        have := ho.out
        rw [List.take_of_length_le (by rw [hrl.out]; omega)] at this
        exact this

def reflRR (xs : List Int) : List Int := if relCode xs = 0 then reflR xs else []
theorem reflRR_length (xs : List Int) : (reflRR xs).length ≤ 1000000 := by
  unfold reflRR
  split
  · rename_i h
    rw [reflR_length]
    rcases relCode_cases xs with h1 | h1 | h1 <;> omega
  · simp
theorem relCode_ne {xs : List Int} (h : ¬ relCode xs = 0) : (relCode xs != 0) = true := by simpa using h
theorem relCode_ok {xs : List Int} (h : relCode xs = 0) : xs.length ≤ 30 ∧ relB xs = true := by
  rcases relCode_cases xs with h1 | h1 | h1
  · omega
  · omega
  · exact ⟨h1.1, h1.2.1⟩

theorem implReflexiveClosure_any (v : Value) (xs : List Int) (w : World) (h : Ints w v xs) :
    Calls Try.prog 29 #[v] w fun e w' => ∃ v', e = .returned (.tuple #[v', .int .i64 (relCode xs)]) ∧ w'.ownsRow w.heap.size 2 1 v' (reflRR xs).length ((reflRR xs).map (Value.int .i64)) ∧ Below w.heap.size w w' := by
  have hq := h
  obtain ⟨hm, a, c, b, o, rfl, hc, h0, hcell⟩ := h.opened
  clear h h0 hcell hm
  have hv := Lib.hid hq
  have hrc := Lib.hid (fun t => relationCode_one w a c xs t hq)
  clear hq
  by_cases h0 : relCode xs = 0
  · obtain ⟨hl, hr⟩ := relCode_ok h0
    have hxb := Lib.hid (rel_bounds hl hr)
    have hf := Lib.hid (show reflRR xs = reflR xs ∧ (reflR xs).length = xs.length from ⟨by simp [reflRR, h0], reflR_length xs⟩)
    have hz := Lib.hid h0
    clear h0 hr
    go_enter Try.func29, Try.ntmps29
    go_wp2_with fail
    refine (hrc.out _).mono ?_
    rintro e w1 ⟨rfl, b1⟩
    rw [hz.out]
    go_wp2_with fail
    refine (reflexive_any _ xs _ (hv.out.below b1 (Nat.le_refl _)) hl hxb.out).mono ?_
    rintro e w2 ⟨v2, rfl, ho, b2⟩
    have ho := Lib.hid (own_mono ho b1.size)
    go_wp2_with fail
    go_ret2
    exact ⟨_, by rw [hz.out]; rfl, by rw [hf.out.1, hf.out.2]; exact ho.out, b1.trans (b2.mono b1.size)⟩
  · have hf := Lib.hid (show reflRR xs = [] by simp [reflRR, h0])
    have hne := relCode_ne h0
    clear h0
    go_enter Try.func29, Try.ntmps29
    go_wp2_with fail
    refine (hrc.out _).mono ?_
    rintro e w1 ⟨rfl, b1⟩
    go_wp2_with fail
    go_ret2
    exact ⟨_, rfl, by rw [hf.out]; exact World.ownsRow_nil _ _ _ _, b1⟩

theorem specReflexiveClosure_any (v : Value) (xs : List Int) (w : World) (h : Ints w v xs) :
    Calls Try.prog 27 #[v] w fun e w' => ∃ v', e = .returned (.tuple #[v', .int .i64 (relCode xs)]) ∧ w'.ownsRow w.heap.size 2 1 v' (reflRR xs).length ((reflRR xs).map (Value.int .i64)) ∧ Below w.heap.size w w' := by
  have hv := Lib.hid h
  have hrc := Lib.hid (l01Relation_any _ xs w h)
  clear h
  by_cases h0 : relCode xs = 0
  · obtain ⟨hl, hr⟩ := relCode_ok h0
    have hxb := Lib.hid (rel_bounds hl hr)
    have hf := Lib.hid (show reflRR xs = reflR xs ∧ (reflR xs).length = xs.length from ⟨by simp [reflRR, h0], reflR_length xs⟩)
    have hz := Lib.hid h0
    clear h0 hr
    go_enter Try.func27, Try.ntmps27
    go_wp2_with fail
    refine hrc.out.mono ?_
    rintro e w1 ⟨rfl, b1⟩
    rw [hz.out]
    go_wp2_with fail
    refine (l01Reflexive_any _ xs _ (hv.out.below b1 (Nat.le_refl _)) hl hxb.out).mono ?_
    rintro e w2 ⟨v2, rfl, ho, b2⟩
    have ho := Lib.hid (own_mono ho b1.size)
    go_wp2_with fail
    go_ret2
    exact ⟨_, by rw [hz.out]; rfl, by rw [hf.out.1, hf.out.2]; exact ho.out, b1.trans (b2.mono b1.size)⟩
  · have hf := Lib.hid (show reflRR xs = [] by simp [reflRR, h0])
    have hne := relCode_ne h0
    clear h0
    go_enter Try.func27, Try.ntmps27
    go_wp2_with fail
    refine hrc.out.mono ?_
    rintro e w1 ⟨rfl, b1⟩
    go_wp2_with fail
    go_ret2
    exact ⟨_, rfl, by rw [hf.out]; exact World.ownsRow_nil _ _ _ _, b1⟩
end Go.Proofs.Ytjjnnlfcdncefaa
