/- append of a slice that reads, be it nil or not, to a row of one's own; slices.Grow and slices.Concat at two lists of lists. -/
import Derived.Test.YtmhkcicjbgifnaaGreatMIConcat
import Derived.Test.YtmhkcicjbgifnaaGreatMMapVM
import Derived.Test.YtmhkcicjbgifnaaGreatMAppendNilM
import Derived.Test.YtmhkcicjbgifnaaGreatMClo

namespace Go.Proofs.YtmhkcicjbgifnaaGreat
open Go.RowKit
set_option linter.unusedVariables false

theorem reads_src {w : World} {p : Option Addr} {m c : Nat} {cs : List Value} (h : Reads w 1 (.slice p m c) m cs) : (m = 0 ∧ p = none) ∨ ∃ ad : Addr, p = some ad ∧ ∀ j u, cs[j]? = some u → w.cell? (ad.add j) = some u := by
  obtain ⟨hl, _, a, c', b, o, hv, hc, ha, hcell⟩ := h
  injection hv with e1 e2 e3
  subst e1; subst e3
  cases hp : p with
  | none =>
    left
    refine ⟨?_, rfl⟩
    rcases Nat.eq_zero_or_pos m with h | h
    · exact h
    · have := ha h; rw [hp] at this; cases this
  | some ad =>
    right
    refine ⟨ad, rfl, fun j u hu => ?_⟩
    have hj : j < m := by have := (List.getElem?_eq_some_iff.1 hu).1; omega
    have := ha (by omega)
    rw [hp] at this
    obtain rfl := Option.some.inj this
    rw [Addr.add_lit]
    exact hcell j u hu
theorem wpList_append_src {P : Program} {w : World} {ops : Array Oper} {rest : List Oper} {o : Oper} {a : Act} {Q : Exit → Act → World → Prop} (hgd : o.guard = none) (s x : Operand) (t : TypeId)
    (ho : o.op = .call { callee := .builtin .append, args := #[s, x], argTypes := #[t, t] })
    (base : Nat) (e : TypeId) (i : TypeInfo) (z : Value) (bytes : Nat) (ht : P.underlying t = some (.slice e)) (hi : P.info? e = some i) (hz : i.zero = some z)
    (hsize : i.size = 1) (hby : i.bytes = bytes) (hzs : z.cells.size = 1)
    (v : Value) (n : Nat) (xs : List Value) (hs : a.eval s = v) (hown : w.ownsRow base e 1 v n xs)
    (p : Option Addr) (m c : Nat) (news : List Value) (hx : a.eval x = .slice p m c) (hl : news.length = m) (hsrc : (m = 0 ∧ p = none) ∨ ∃ ad : Addr, p = some ad ∧ ∀ j u, news[j]? = some u → w.cell? (ad.add j) = some u) (h1 : ∀ u ∈ news, u.oneCell' = true)
    (h63 : n + m ≤ maxLen) (hbytes : (n + m) * bytes ≤ 140737488355328) (hbase : base ≤ w.heap.size)
    (h : ∀ v' w', w'.ownsRow base e 1 v' (n + m) (xs ++ news) → w.grownBy w' v.ownBlock → (v'.ownBlock = v.ownBlock ∨ v'.ownBlock = some w.heap.size) → wpList P ops Q rest (a.put o.dst v') w') :
    wpList P ops Q (o :: rest) a w := by
  rcases hsrc with ⟨rfl, rfl⟩ | ⟨ad, rfl, hsrc⟩
  · have hn : news = [] := List.eq_nil_of_length_eq_zero hl
    subst hn
    obtain ⟨b, cv, rfl, hnc⟩ : ∃ b cv, v = .slice b n cv ∧ n ≤ cv := by
      rcases hown.2 with ⟨rfl, h0⟩ | ⟨g, cap, cur, rfl, _, _, hnc, _⟩
      · exact ⟨none, 0, by rw [h0], by omega⟩
      · exact ⟨_, _, rfl, hnc⟩
    refine wpList_append_none hgd s x t ho e i ht hi b n cv c hs hx hnc (h _ _ ?_ (World.grownBy.refl _ _) (.inl rfl))
    rw [List.append_nil]
    exact hown
  · exact wpList_append_own_at w hgd s x t ho base e i z 1 bytes ht hi hz hsize hby hzs (by decide) v n xs hs hown ad m c news hx (by omega) hsrc h1 h63 hbytes hbase (fun v' w' h1 h2 _ h4 => h v' w' h1 h2 h4)

end Go.Proofs.YtmhkcicjbgifnaaGreat

/- slices.Clone at lists of int64; impl.clauseKey. -/
namespace Go.Proofs.YtmhkcicjbgifnaaGreat
open Go.RowKit Go.Lib
set_option linter.unusedVariables false
set_option linter.unusedSimpArgs false
theorem cloneZ_any (v : Value) (xs : List Int) (w : World) (h : Ints w v xs) (hn : xs.length ≤ 1048576) :
    Calls Tryz.prog 44 #[v] w fun e w' => ∃ v', e = .returned v' ∧ w'.ownsRow w.heap.size 2 1 v' xs.length (xs.map (Value.int .i64)) ∧ Below w.heap.size w w' := by
  obtain ⟨i0, hi, hz0, hz1, hz2⟩ := info_parts info_i64
  have hnil : ∀ (w : World) (a : Option Addr) (n c n' c' : Nat), (binOp .eql 48 (.slice a n c) (.slice none n' c')).run Tryz.prog w = .ok (.bool a.isNone) w := fun w a n c n' c' => Lib.run_eql_slice_nil w _ _ a n c n' c' Tryz.underlying48
  obtain ⟨a, c, rfl⟩ := h.shape
  have hba := Lib.hid ((Below.refl w.heap.size w).alloc (Nat.le_refl _) (.cells #[] 2))
  have hsrc := Lib.hid (reads_src (Reads.below h hba.out (Nat.le_refl _)))
  have hlen := Lib.hid (show (xs.map (Value.int .i64)).length = xs.length by simp)
  have hl0 := Lib.hid (World.ownsRow_lit (e := 2) (base := w.heap.size) (size := 1) w #[] 0 (Nat.le_refl _) (by simp [maxLen]) rfl)
  have hone := Lib.hid (ints_oneCell xs)
  cases a with
  | none =>
    have hx : xs = [] := by
      rcases hsrc.out with ⟨h0, _⟩ | ⟨ad, h0, _⟩
      · exact List.eq_nil_of_length_eq_zero h0
      · cases h0
    subst hx
    clear h hsrc
    go_enter Tryz.func44, Tryz.ntmps44
    go_wp2_with fail
    go_ret
    exact ⟨_, rfl, World.ownsRow_nil _ _ _ _, Below.refl _ _⟩
  | some p =>
    clear h
    generalize hm : xs.length = m at *
    have hm := Lib.hid hm
    have hmm : 0 + m ≤ maxLen := by unfold maxLen; omega
    go_enter Tryz.func44, Tryz.ntmps44
    go_wp2_with (at_builtin; refine wpList_append_src rfl _ _ 48 rfl w.heap.size 2 i0 (.int .i64 0) 8 Tryz.underlying48 hi hz0 hz1 hz2 rfl _ _ _ rfl hl0.out _ m c (xs.map (Value.int .i64)) rfl hlen.out hsrc.out hone.out hmm (by omega) (by simp) ?_; intro v' w1 hown' hgrow hblk)
    go_ret
    refine ⟨v', rfl, ?_, ?_⟩
    · simpa using hown'
    · exact hba.out.grown hgrow (by simp) (fun j hj => (hl0.out.lt j hj).1)
theorem pow_step (m x : Int) (h0 : 0 ≤ m) (h1 : m < 4096) (h2 : 0 ≤ x) (h3 : x ≤ 11) :
    bits BinOp.or IntKind.i64 m (2 ^ x.toNat) = ((m.toNat ||| 2 ^ x.toNat : Nat) : Int) ∧ 0 ≤ bits BinOp.or IntKind.i64 m (2 ^ x.toNat) ∧ bits BinOp.or IntKind.i64 m (2 ^ x.toNat) < 4096 := by
  have h := or_step m x h0 (by omega) h2 (by omega)
  refine ⟨h.1, h.2.1, ?_⟩
  rw [h.1]
  have hq : m.toNat ||| 2 ^ x.toNat < 2 ^ 12 := Nat.or_lt_two_pow (by omega) (Nat.pow_lt_pow_right (by omega) (by omega))
  omega
set_option maxHeartbeats 1000000 in
theorem clauseKey_any (v : Value) (xs : List Int) (w : World) (h : Ints w v xs) (hc : ∀ x ∈ xs, 0 ≤ x ∧ x ≤ 11) :
    Calls Tryz.prog 45 #[v] w fun e w' => e = .returned (.int .i64 ((orBits xs : Nat) : Int)) ∧ w = w' := by
  obtain ⟨hm, a, c, b, o, rfl, hcp, h0, hcell⟩ := h.opened
  unfold maxLen at hm
  have hc := Lib.hid hc
  clear h
  go_enter Tryz.func45, Tryz.ntmps45
  go_wp2_with fail
  go_loop [3, 8] (fun mm i => ∃ (k : Nat) (m : Int), k ≤ xs.length ∧ i = .int .i64 k ∧ mm = .int .i64 m ∧ 0 ≤ m ∧ m < 4096 ∧ Hid (m = (orBits (xs.take k) : Nat))) (fun _ i => xs.length - (intOf i).toNat)
  case atStart => exact ⟨0, 0, Nat.zero_le _, rfl, rfl, by omega, by omega, rfl⟩
  case round =>
    obtain ⟨k, m, hk, rfl, rfl, m0, m1, hmm⟩ := hrel
    by_cases hlt : k < xs.length
    · have ha : a = some ⟨b, o, none⟩ := by
        rcases h0 with h | ⟨_, h⟩
        · exact absurd h (by omega)
        · exact h
      subst ha
      obtain ⟨x, hx, hcx⟩ := hcell.out k hlt
      obtain ⟨x0, x1⟩ := hc.out x (List.mem_of_getElem? hx)
      have hp := pow_bounds x 11 (by omega)
      rw [show (2 : Int) ^ 11 = 2048 by decide] at hp
      obtain ⟨hp1, hp2⟩ := hp
      have hs := pow_step m x m0 m1 x0 x1
      have hs1 := Lib.hid hs.1
      obtain ⟨hs2, hs3⟩ := hs.2
      have hx := Lib.hid hx
      clear hs
      go_wp2_with fail
      go_round
      case rel =>
        refine ⟨k + 1, _, by omega, by go_num, rfl, hs2, hs3, ?_⟩
        show _ = _
        rw [hs1.out, orBits_succ xs k x hx.out, hmm.out, Int.toNat_natCast]
      case measure => simp [intOf]; omega
    · obtain rfl : k = xs.length := by omega
      have h1 := Lib.hid (show m = (orBits xs : Nat) by have h1 := hmm.out; rw [List.take_length] at h1; exact h1)
      go_wp2_with fail
      go_ret
      exact ⟨ret_int h1.out, rfl⟩
end Go.Proofs.YtmhkcicjbgifnaaGreat
