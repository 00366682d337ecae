/- impl.sortedLists at any list; slices.Clone; impl.copyLists; impl.clauseKey. -/
import Derived.Test.YtobbhflajkhcdaaCompFn
import Derived.Test.YtobbhflajkhcdaaAppSrc
import Derived.Test.YtobbhflajkhcdaaClo
namespace Go.Proofs.Ytobbhflajkhcdaa
open Go.RowKit Go.Lib
set_option linter.unusedVariables false
set_option linter.unusedSimpArgs false

set_option maxHeartbeats 1000000 in
theorem sortedLists_any (K : Nat) (v : Value) (ss : List SlI) (w : World) (h : GrowI K w v ss) (hl : ss.length < 4611686018427387904) :
    Calls Try.prog 17 #[v] w fun e w' => ∃ (v' : Value) (ss' : List SlI), e = .returned v' ∧ GrowI K w' v' ss' ∧ Hid ((ss'.map Prod.snd).Pairwise ltI ∧ ∀ x, x ∈ ss'.map Prod.snd ↔ x ∈ ss.map Prod.snd) ∧ Below K w w' := by
  have hs := Lib.hid (sortFuncII_any K v ss w h.own (fun s hs => ints_of_own (h.row s hs)) (fun s hs k hk => h.ap s hs k hk) hl)
  have hgr := Lib.hid h
  clear h
  go_enter Try.func17, Try.ntmps17
  go_wp2_with fail
  refine hs.out.mono ?_
  rintro e w1 ⟨rfl, ss1, hp, hsort, ho, hg⟩
  have hlen : ss1.length = ss.length := hp.length_eq
  rw [← hlen] at ho
  have hmem := Lib.hid (fun s (hs : s ∈ ss1) => hp.mem_iff.1 hs)
  have hrow1 := Lib.hid (fun s (hs : s ∈ ss1) => show w1.ownsRow K 2 1 (slVI s) s.2.length (s.2.map (Value.int .i64)) from row_same (hgr.out.row s (hmem.out s hs)) fun k hk1 _ hl => hg.block k hl fun e => hgr.out.ap s (hmem.out s hs) k e.symm hk1)
  have hpw1 := Lib.hid (show ss1.Pairwise fun s t => ∀ k, (slVI s).ownBlock = some k → (slVI t).ownBlock ≠ some k from (hp.pairwise_iff (fun {a b} hab k hk hk2 => hab k hk2 hk)).2 hgr.out.pw)
  have hc := Lib.hid (compactFuncII_any K v ss1 w1 ho (fun s hs => ints_of_own (hrow1.out s hs)) (fun s hs k hk => hgr.out.ap s (hmem.out s hs) k hk) (by omega))
  have hstr := Lib.hid (keptS_strict hsort)
  have hsub := Lib.hid (show (keptS ss1 ss1.length).Sublist ss1 by have := keptS_sub ss1 ss1.length; rwa [List.take_length] at this)
  have hperm := Lib.hid (fun x => show x ∈ ss1.map (·.2) ↔ x ∈ ss.map (·.2) from (hp.map _).mem_iff)
  have hgh := Lib.hid hg
  clear ho hs hsort hg hp hlen
  generalize hk2 : keptS ss1 ss1.length = kk at *
  clear hk2
  go_wp2_with fail
  refine hc.out.mono ?_
  rintro e w2 ⟨v2, rfl, hv2, ho2, hg2⟩
  have hg2 := Lib.hid hg2
  have ho2 := Lib.hid ho2
  have hv2 := Lib.hid hv2
  go_wp2_with fail
  go_ret
  have hall := hgh.out.trans hg2.out
  refine ⟨v2, kk, rfl, ⟨ho2.out, fun s hs => ?_, fun s hs k hk => ?_, hpw1.out.sublist hsub.out, Nat.le_trans hgr.out.ks hall.size⟩, Lib.hid ⟨hstr.out.1, fun x => (hstr.out.2 x).trans (hperm.out x)⟩, below_of_grownBy hall hgr.out.ks (fun k hk => (hgr.out.own.lt k hk).1)⟩
  · have hs1 := hsub.out.subset hs
    exact row_same (hrow1.out s hs1) fun k hk1 _ hl => hg2.out.block k hl fun e => hgr.out.ap s (hmem.out s hs1) k e.symm hk1
  · rw [hv2.out] at hk
    exact hgr.out.ap s (hmem.out s (hsub.out.subset hs)) k hk
theorem cloneZ_any (v : Value) (xs : List Int) (w : World) (h : Ints w v xs) (hn : xs.length ≤ 1048576) :
    Calls Try.prog 38 #[v] w fun e w' => ∃ v', e = .returned v' ∧ w'.ownsRow w.heap.size 2 1 v' xs.length (xs.map (Value.int .i64)) ∧ Below w.heap.size w w' := by
  obtain ⟨i0, hi, hz0, hz1, hz2⟩ := info_parts info_i64
  have hnil : ∀ (w : World) (a : Option Addr) (n c n' c' : Nat), (binOp .eql 30 (.slice a n c) (.slice none n' c')).run Try.prog w = .ok (.bool a.isNone) w := fun w a n c n' c' => Lib.run_eql_slice_nil w _ _ a n c n' c' Try.underlying30
  obtain ⟨a, c, rfl⟩ := h.shape
  have hba := Lib.hid ((Below.refl w.heap.size w).alloc (Nat.le_refl _) (.cells #[] 2))
  have hsrc := Lib.hid (reads_src (Reads.below h hba.out (Nat.le_refl _)))
  have hlen := Lib.hid (show (xs.map (Value.int .i64)).length = xs.length by simp)
  have hl0 := Lib.hid (World.ownsRow_lit (e := 2) (base := w.heap.size) (size := 1) w #[] 0 (Nat.le_refl _) (by simp [maxLen]) rfl)
  have hone := Lib.hid (ints_oneCell xs)
  cases a with
  | none =>
    have hx : xs = [] := by
      rcases hsrc.out with ⟨h0, _⟩ | ⟨ad, h0, _⟩
      · exact List.eq_nil_of_length_eq_zero h0
      · cases h0
    subst hx
    clear h hsrc
    go_enter Try.func38, Try.ntmps38
    go_wp2_with fail
    go_ret
    exact ⟨_, rfl, World.ownsRow_nil _ _ _ _, Below.refl _ _⟩
  | some p =>
    clear h
    generalize hm : xs.length = m at *
    have hm := Lib.hid hm
    have hmm : 0 + m ≤ maxLen := by unfold maxLen; omega
    go_enter Try.func38, Try.ntmps38
    go_wp2_with (at_builtin; refine wpList_append_src rfl _ _ 30 rfl w.heap.size 2 i0 (.int .i64 0) 8 Try.underlying30 hi hz0 hz1 hz2 rfl _ _ _ rfl hl0.out _ m c (xs.map (Value.int .i64)) rfl hlen.out hsrc.out hone.out hmm (by omega) (by simp) ?_; intro v' w1 hown' hgrow hblk)
    go_ret
    refine ⟨v', rfl, ?_, ?_⟩
    · simpa using hown'
    · exact hba.out.grown hgrow (by simp) (fun j hj => (hl0.out.lt j hj).1)
theorem pow_step (m x : Int) (h0 : 0 ≤ m) (h1 : m < 4096) (h2 : 0 ≤ x) (h3 : x ≤ 11) :
    bits BinOp.or IntKind.i64 m (2 ^ x.toNat) = ((m.toNat ||| 2 ^ x.toNat : Nat) : Int) ∧ 0 ≤ bits BinOp.or IntKind.i64 m (2 ^ x.toNat) ∧ bits BinOp.or IntKind.i64 m (2 ^ x.toNat) < 4096 := by
  have h := or_step m x h0 (by omega) h2 (by omega)
  refine ⟨h.1, h.2.1, ?_⟩
  rw [h.1]
  have hq : m.toNat ||| 2 ^ x.toNat < 2 ^ 12 := Nat.or_lt_two_pow (by omega) (Nat.pow_lt_pow_right (by omega) (by omega))
  omega
set_option maxHeartbeats 1000000 in
theorem clauseKey_any (v : Value) (xs : List Int) (w : World) (h : Ints w v xs) (hc : ∀ x ∈ xs, 0 ≤ x ∧ x ≤ 11) :
    Calls Try.prog 19 #[v] w fun e w' => e = .returned (.int .i64 ((orBits xs : Nat) : Int)) ∧ w = w' := by
  obtain ⟨hm, a, c, b, o, rfl, hcp, h0, hcell⟩ := h.opened
  unfold maxLen at hm
  have hc := Lib.hid hc
  clear h
  go_enter Try.func19, Try.ntmps19
  go_wp2_with fail
  go_loop [3, 8] (fun mm i => ∃ (k : Nat) (m : Int), k ≤ xs.length ∧ i = .int .i64 k ∧ mm = .int .i64 m ∧ 0 ≤ m ∧ m < 4096 ∧ Hid (m = (orBits (xs.take k) : Nat))) (fun _ i => xs.length - (intOf i).toNat)
  case atStart => exact ⟨0, 0, Nat.zero_le _, rfl, rfl, by omega, by omega, rfl⟩
  case round =>
    obtain ⟨k, m, hk, rfl, rfl, m0, m1, hmm⟩ := hrel
    by_cases hlt : k < xs.length
    · have ha : a = some ⟨b, o, none⟩ := by
        rcases h0 with h | ⟨_, h⟩
        · exact absurd h (by omega)
        · exact h
      subst ha
      obtain ⟨x, hx, hcx⟩ := hcell.out k hlt
      obtain ⟨x0, x1⟩ := hc.out x (List.mem_of_getElem? hx)
      have hp := pow_bounds x 11 (by omega)
      rw [show (2 : Int) ^ 11 = 2048 by decide] at hp
      obtain ⟨hp1, hp2⟩ := hp
      have hs := pow_step m x m0 m1 x0 x1
      have hs1 := Lib.hid hs.1
      obtain ⟨hs2, hs3⟩ := hs.2
      have hx := Lib.hid hx
      clear hs
      go_wp2_with fail
      go_round
      case rel =>
        refine ⟨k + 1, _, by omega, by go_num, rfl, hs2, hs3, ?_⟩
        show _ = _
        rw [hs1.out, orBits_succ xs k x hx.out, hmm.out, Int.toNat_natCast]
      case measure => simp [intOf]; omega
    · obtain rfl : k = xs.length := by omega
      have h1 := Lib.hid (show m = (orBits xs : Nat) by have h1 := hmm.out; rw [List.take_length] at h1; exact h1)
      go_wp2_with fail
      go_ret
      exact ⟨ret_int h1.out, rfl⟩
end Go.Proofs.Ytobbhflajkhcdaa
