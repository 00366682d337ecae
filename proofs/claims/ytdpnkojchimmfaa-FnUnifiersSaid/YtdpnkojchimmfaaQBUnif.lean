/- UnifyFormulas: the program's parts: difference, toBind, identity in memory of its own. -/
import Derived.Test.YtdpnkojchimmfaaQBUnifMath
import Derived.Test.YtdpnkojchimmfaaQBMatchTwo
import Derived.Deep.LoopGhost
import Derived.Deep.RegionWith
import Derived.BigQuiet

namespace Go.Proofs.Ytdpnkojchimmfaa
open Go.RowKit Go.Deep

def diffI (a b : List Nd) : Int := if agree a b = a.length ∨ agree a b = b.length then -1 else (agree a b : Nat)
theorem diff_at {a b : List Nd} {k : Nat} (h1 : k < a.length) (h2 : k < b.length) (h3 : ∀ j, j < k → a[j]? = b[j]?) (h4 : a[k]? ≠ b[k]?) : diffI a b = (k : Nat) := by
  have e := agree_eq a b k (by omega) (by omega) h3 (.inr (.inr h4))
  unfold diffI
  rw [e, if_neg (by omega)]
theorem diff_end {a b : List Nd} {k : Nat} (h1 : k ≤ a.length) (h2 : k ≤ b.length) (h3 : ∀ j, j < k → a[j]? = b[j]?) (h4 : k = a.length ∨ k = b.length) : diffI a b = -1 := by
  have e := agree_eq a b k h1 h2 h3 (by rcases h4 with h | h; exact .inl h; exact .inr (.inl h))
  unfold diffI
  rw [e, if_pos h4]
theorem nodes_get {w : World} {b o : Nat} {ns : List Nd} (h : ∀ j u, (cellsN ns)[j]? = some u → w.cell? ⟨b, o + j, none⟩ = some u) {k : Nat} (hk : k < ns.length) :
    ∃ x y, ns[k]? = some (x, y) ∧ w.cell? ⟨b, o + k * 2, none⟩ = some (.int .i64 x) ∧ w.cell? ⟨b, o + k * 2 + 1, none⟩ = some (.int .i64 y) := by
  have hz : ns[k]? = some (ns[k]'hk) := List.getElem?_eq_getElem hk
  obtain ⟨h1, h2⟩ := cellsN_get ns k _ hz
  refine ⟨_, _, hz, h _ _ h1, ?_⟩
  have := h _ _ h2
  rw [Nat.add_assoc]
  exact this

theorem mem_varMask {d : List Nd} {v : Int} (hg : d.all nodeB = true) (hv0 : 0 ≤ v) : hasB (varMask d) v = decide (v ∈ varL d) := by
  unfold hasB varMask
  rw [Int.toNat_natCast]
  have h9 : ∀ (xs : List Int) (acc i : Nat), (xs.foldl (fun acc x => acc ||| 2 ^ x.toNat) acc).testBit i = (acc.testBit i || xs.any fun x => decide (x.toNat = i)) := by
    intro xs
    induction xs with
    | nil => intro acc i; simp
    | cons x xs ih =>
      intro acc i
      rw [List.foldl_cons, ih, Nat.testBit_or, List.any_cons, Nat.testBit_two_pow]
      simp [Bool.or_assoc]
  unfold orBits
  rw [h9, Nat.zero_testBit, Bool.false_or]
  rw [Bool.eq_iff_iff, List.any_eq_true, decide_eq_true_eq]
  constructor
  · rintro ⟨x, hx, he⟩
    have hb := List.all_eq_true.1 hg _ (mem_varL.1 hx)
    simp [nodeB] at hb
    have : x = v := by have := of_decide_eq_true he; omega
    rw [← this]; exact hx
  · intro h
    exact ⟨v, h, by simp⟩

set_option maxHeartbeats 1000000 in
theorem difference_any (v u : Value) (a b : List Nd) (w : World) (h : Nodes w v a) (hu : Nodes w u b) (ha : 0 < a.length) (hb : 0 < b.length) (ha4 : a.length ≤ 40) (hb4 : b.length ≤ 40) :
    Calls Try.prog 30 #[v, u] w fun e w' => e = .returned (.int .i64 (diffI a b)) ∧ Below w.heap.size w w' := by
  obtain ⟨c, bb, o, rfl, hc, _, hcell⟩ := h.raw ha
  obtain ⟨c', bb', o', rfl, hc', _, hcell'⟩ := hu.raw hb
  have hget := Lib.hid (fun k hk => nodes_get hcell.out (k := k) hk)
  have hget' := Lib.hid (fun k hk => nodes_get hcell'.out (k := k) hk)
  clear h hu hcell hcell'
  rcases Nat.lt_or_ge a.length b.length with hle | hle
  · have hmin : min (a.length : Int) (b.length : Int) = (a.length : Int) := by omega
    go_enter Try.func30, Try.ntmps30
    go_wp2_with fail
    go_loopw [11] (fun i wr => ∃ k : Nat, k ≤ a.length ∧ i = .int .i64 k ∧ Hid (∀ j, j < k → a[j]? = b[j]?) ∧ Below w.heap.size w wr) (fun i _ => a.length - (intOf i).toNat)
    case atStart => exact ⟨0, Nat.zero_le _, rfl, fun j hj => by omega, Below.refl _ _⟩
    case round =>
      obtain ⟨k, hk, rfl, hall, hbw⟩ := hrel
      by_cases hlt : k < a.length
      · obtain ⟨x, y, hx, hcx, hcy⟩ := hget.out k (by omega)
        obtain ⟨x', y', hx', hcx', hcy'⟩ := hget'.out k (by omega)
        have hcx := (hbw.cell (p := ⟨bb, o + k * 2, none⟩) (World.block_lt_of_cell? w _ hcx)).trans hcx
        have hcy := (hbw.cell (p := ⟨bb, o + k * 2 + 1, none⟩) (World.block_lt_of_cell? w _ hcy)).trans hcy
        have hcx' := (hbw.cell (p := ⟨bb', o' + k * 2, none⟩) (World.block_lt_of_cell? w _ hcx')).trans hcx'
        have hcy' := (hbw.cell (p := ⟨bb', o' + k * 2 + 1, none⟩) (World.block_lt_of_cell? w _ hcy')).trans hcy'
        have hx := Lib.hid hx
        have hx' := Lib.hid hx'
        have hka : (k : Int) < (a.length : Int) := by omega
        have hkb : (k : Int) < (b.length : Int) := by omega
        have hfin := Lib.hid (fun hne => diff_at (k := k) (by omega) (by omega) hall.out hne)
        by_cases he : x = x' ∧ y = y'
        · obtain ⟨rfl, rfl⟩ := he
          go_wp2_with fail
          go_quiet (fail)
          go_wp2_with fail
          go_roundw
          case rel =>
            refine ⟨k + 1, by omega, by go_num, fun i hi => ?_, hbw.trans (below_drewN' _ _)⟩
            rcases Nat.lt_or_ge i k with h2 | h2
            · exact hall.out i h2
            · obtain rfl : i = k := by omega
              rw [hx.out, hx'.out]
          case measure => simp [intOf]; omega
        · have hf := Lib.hid (hfin.out (by
            rw [hx.out, hx'.out]
            intro e
            have := Option.some.inj e
            exact he ⟨congrArg Prod.fst this, congrArg Prod.snd this⟩))
          by_cases hxe : x = x'
          · have hye : (y == y') = false := by rw [beq_eq_false_iff_ne]; exact fun h => he ⟨hxe, h⟩
            subst hxe
            clear he hfin
            go_wp2_with fail
            go_quiet (fail)
            go_wp2_with fail
            go_ret
            exact ⟨ret_int hf.out.symm, hbw.trans (below_drewN' _ _)⟩
          · have hye : (x == x') = false := by rw [beq_eq_false_iff_ne]; exact hxe
            clear he hxe hfin
            go_wp2_with fail
            go_quiet (fail)
            go_wp2_with fail
            go_ret
            exact ⟨ret_int hf.out.symm, hbw.trans (below_drewN' _ _)⟩
      · obtain rfl : k = a.length := by omega
        have hf := Lib.hid (diff_end (a := a) (b := b) (by omega) (by omega) hall.out (by omega))
        go_wp2_with fail
        go_ret
        exact ⟨ret_int hf.out.symm, hbw⟩
  · have hmin : min (a.length : Int) (b.length : Int) = (b.length : Int) := by omega
    go_enter Try.func30, Try.ntmps30
    go_wp2_with fail
    go_loopw [11] (fun i wr => ∃ k : Nat, k ≤ b.length ∧ i = .int .i64 k ∧ Hid (∀ j, j < k → a[j]? = b[j]?) ∧ Below w.heap.size w wr) (fun i _ => b.length - (intOf i).toNat)
    case atStart => exact ⟨0, Nat.zero_le _, rfl, fun j hj => by omega, Below.refl _ _⟩
    case round =>
      obtain ⟨k, hk, rfl, hall, hbw⟩ := hrel
      by_cases hlt : k < b.length
      · obtain ⟨x, y, hx, hcx, hcy⟩ := hget.out k (by omega)
        obtain ⟨x', y', hx', hcx', hcy'⟩ := hget'.out k (by omega)
        have hcx := (hbw.cell (p := ⟨bb, o + k * 2, none⟩) (World.block_lt_of_cell? w _ hcx)).trans hcx
        have hcy := (hbw.cell (p := ⟨bb, o + k * 2 + 1, none⟩) (World.block_lt_of_cell? w _ hcy)).trans hcy
        have hcx' := (hbw.cell (p := ⟨bb', o' + k * 2, none⟩) (World.block_lt_of_cell? w _ hcx')).trans hcx'
        have hcy' := (hbw.cell (p := ⟨bb', o' + k * 2 + 1, none⟩) (World.block_lt_of_cell? w _ hcy')).trans hcy'
        have hx := Lib.hid hx
        have hx' := Lib.hid hx'
        have hka : (k : Int) < (a.length : Int) := by omega
        have hkb : (k : Int) < (b.length : Int) := by omega
        have hfin := Lib.hid (fun hne => diff_at (k := k) (by omega) (by omega) hall.out hne)
        by_cases he : x = x' ∧ y = y'
        · obtain ⟨rfl, rfl⟩ := he
          go_wp2_with fail
          go_quiet (fail)
          go_wp2_with fail
          go_roundw
          case rel =>
            refine ⟨k + 1, by omega, by go_num, fun i hi => ?_, hbw.trans (below_drewN' _ _)⟩
            rcases Nat.lt_or_ge i k with h2 | h2
            · exact hall.out i h2
            · obtain rfl : i = k := by omega
              rw [hx.out, hx'.out]
          case measure => simp [intOf]; omega
        · have hf := Lib.hid (hfin.out (by
            rw [hx.out, hx'.out]
            intro e
            have := Option.some.inj e
            exact he ⟨congrArg Prod.fst this, congrArg Prod.snd this⟩))
          by_cases hxe : x = x'
          · have hye : (y == y') = false := by rw [beq_eq_false_iff_ne]; exact fun h => he ⟨hxe, h⟩
            subst hxe
            clear he hfin
            go_wp2_with fail
            go_quiet (fail)
            go_wp2_with fail
            go_ret
            exact ⟨ret_int hf.out.symm, hbw.trans (below_drewN' _ _)⟩
          · have hye : (x == x') = false := by rw [beq_eq_false_iff_ne]; exact hxe
            clear he hxe hfin
            go_wp2_with fail
            go_quiet (fail)
            go_wp2_with fail
            go_ret
            exact ⟨ret_int hf.out.symm, hbw.trans (below_drewN' _ _)⟩
      · obtain rfl : k = b.length := by omega
        have hf := Lib.hid (diff_end (a := a) (b := b) (by omega) (by omega) hall.out (by omega))
        go_wp2_with fail
        go_ret
        exact ⟨ret_int hf.out.symm, hbw⟩

/-- What toBind hands back. -/
def bindRet (w : World) (r : Option (Int × List Nd)) (e : Ending) : Prop :=
  (r = none ∧ e = .returned (.tuple #[.int .i64 0, .slice none 0 0, .bool false])) ∨ ∃ s d vd, r = some (s, d) ∧ e = .returned (.tuple #[.int .i64 s, vd, .bool true]) ∧ Nodes w vd d
theorem head_cell {w : World} {v : Value} {ns : List Nd} (h : Nodes w v ns) (hp : 0 < ns.length) : ∃ c b o, v = .slice (some ⟨b, o, none⟩) ns.length c ∧ ns.length ≤ c ∧ ns.length ≤ maxLen ∧ w.cell? ⟨b, o, none⟩ = some (.int .i64 (headN ns).1) ∧ w.cell? ⟨b, o + 1, none⟩ = some (.int .i64 (headN ns).2) := by
  obtain ⟨c, b, o, rfl, hc, hm, hcell⟩ := h.raw hp
  cases ns with
  | nil => simp at hp
  | cons n l => exact ⟨c, b, o, rfl, hc, hm, node_head hcell.out⟩
end Go.Proofs.Ytdpnkojchimmfaa
