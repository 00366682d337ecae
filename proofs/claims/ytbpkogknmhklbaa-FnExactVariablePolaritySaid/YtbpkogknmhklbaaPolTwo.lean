/- Walks of VariablePolarity, of the reference. -/
import Derived.Test.YtbpkogknmhklbaaPol
import Derived.Test.YtbpkogknmhklbaaGuard
namespace Go.Proofs.Ytbpkogknmhklbaa
open Go.RowKit

/-- One node's part in a variable's polarity. -/
def sigS (u : Int) (acc : Int) (n : Nd) (q : Int) : Int := if n.1 = 0 ∧ n.2 = u then (if q = 1 then bits BinOp.or IntKind.i64 acc 1 else bits BinOp.or IntKind.i64 acc 2) else acc
def sigU (u : Int) (ns : List Nd) (qs : List Int) : Nat → Int
  | 0 => 0
  | k + 1 => sigS u (sigU u ns qs k) (ns.getD k (0, 0)) (qs.getD k 0)
theorem sigU_succ {u : Int} {ns : List Nd} {qs : List Int} {k : Nat} {x y q : Int} (h : ns[k]? = some (x, y)) (h2 : qs[k]? = some q) : sigU u ns qs (k + 1) = sigS u (sigU u ns qs k) (x, y) q := by
  simp [sigU, List.getD, h, h2]
def sigT (u : Int) (ns : List Nd) : Int := sigU u ns (polT 1 (treeOf ns)) ns.length
def polR (ns : List Nd) (u : Int) : Int := if codeV ns u = 0 then sigT u ns else 0

theorem ints_cells {w : World} {v : Value} {xs : List Int} (h : Ints w v xs) (hp : 0 < xs.length) : ∃ b o c, v = .slice (some ⟨b, o, none⟩) xs.length c ∧ xs.length ≤ c ∧ Hid (∀ i, i < xs.length → ∃ x, xs[i]? = some x ∧ w.cell? ⟨b, o + i, none⟩ = some (.int .i64 x)) := by
  obtain ⟨hm, a, c, b, o, rfl, hc, h0, hcell⟩ := h.opened
  rcases h0 with h0 | ⟨_, rfl⟩
  · omega
  · exact ⟨b, o, c, rfl, hc, hcell⟩

set_option maxHeartbeats 1000000 in
theorem l03Signs_any (u : Int) (v : Value) (ns : List Nd) (w : World) (h : Nodes w v ns) (hf : formB ns = true) :
    Calls Try.prog 69 #[v, .int .i64 u] w fun e w' => e = .returned (.int .i64 (sigT u ns)) ∧ Below w.heap.size w w' := by
  have hv := Lib.hid h
  obtain ⟨hp0, hp1⟩ : 0 < ns.length ∧ ns.length ≤ 40 := by simp only [formB, Bool.and_eq_true, decide_eq_true_eq] at hf; omega
  obtain ⟨hok, hfl⟩ := treeOf_spec hf
  have hpol := Lib.hid (l03Polarities_any (treeOf ns) 1 v w (.inl rfl) hok (by rw [hfl]; exact h) (by rw [hfl]; omega))
  have hone := Lib.hid (polT_one (treeOf ns) 1 (.inl rfl))
  have hqn : (polT 1 (treeOf ns)).length = ns.length := by rw [polT_len, hfl]
  have hsig := Lib.hid (show sigT u ns = sigU u ns (polT 1 (treeOf ns)) ns.length from rfl)
  clear hok hfl
  generalize polT 1 (treeOf ns) = qs at *
  obtain ⟨hm, a, c, b, o, rfl, hc, h0, hcell⟩ := h.opened
  clear h hm hf
  obtain rfl : a = some ⟨b, o, none⟩ := by rcases h0 with h0 | ⟨_, h0⟩; · omega
                                           exact h0
  clear h0
  go_enter Try.func69, Try.ntmps69
  go_wp2_with fail
  refine hpol.out.mono ?_
  rintro e w1 ⟨v1, rfl, ho, b1⟩
  obtain ⟨b2, o2, c2, rfl, hc2, hcell2⟩ := ints_cells (ints_of_own ho) (by omega)
  rw [hqn] at hcell2 hc2 ⊢
  have b1h := Lib.hid b1
  have hqn := Lib.hid hqn
  clear ho b1 hpol
  go_wp2_with fail
  go_loop [6, 7] (fun z i => ∃ k : Nat, k ≤ ns.length ∧ i = .int .i64 k ∧ z = .int .i64 (sigU u ns qs k)) (fun _ i => ns.length - (intOf i).toNat)
  case atStart => exact ⟨0, Nat.zero_le _, rfl, rfl⟩
  case round =>
    obtain ⟨k, hk, rfl, rfl⟩ := hrel
    by_cases hlt : k < ns.length
    · obtain ⟨x, y, hx, hcx, hcy⟩ := hcell.out k hlt
      obtain ⟨q, hq, hcq⟩ := hcell2.out k hlt
      have lb := World.block_lt_of_cell? w _ hcx
      have hcx := (b1h.out.cell (p := ⟨b, o + k * 2, none⟩) lb).trans hcx
      have hcy := (b1h.out.cell (p := ⟨b, o + k * 2 + 1, none⟩) lb).trans hcy
      have hs := Lib.hid (sigU_succ (u := u) hx hq)
      have hqq := hone.out q (List.mem_of_getElem? hq)
      clear hx hq lb
      generalize sigU u ns qs k = acc at *
      by_cases hx0 : x = 0
      · subst hx0
        by_cases hyu : y = u
        · subst hyu
          rcases hqq with rfl | rfl
          · have hs := Lib.hid (hs.out.trans (show _ = bits BinOp.or IntKind.i64 acc 1 by simp [sigS]))
            go_wp2_with fail
            go_round
            case rel => exact ⟨k + 1, by omega, by go_num, by rw [hs.out]⟩
            case measure => simp [intOf]; omega
          · have hs := Lib.hid (hs.out.trans (show _ = bits BinOp.or IntKind.i64 acc 2 by simp [sigS]))
            go_wp2_with fail
            go_round
            case rel => exact ⟨k + 1, by omega, by go_num, by rw [hs.out]⟩
            case measure => simp [intOf]; omega
        · have hyf : (y != u) = true := by simpa using hyu
          have hs := Lib.hid (hs.out.trans (show _ = acc by simp [sigS, hyu]))
          clear hyu hqq
          go_wp2_with fail
          go_round
          case rel => exact ⟨k + 1, by omega, by go_num, by rw [hs.out]⟩
          case measure => simp [intOf]; omega
      · have hxf : (x != 0) = true := by simpa using hx0
        have hs := Lib.hid (hs.out.trans (show _ = acc by simp [sigS, hx0]))
        clear hx0 hqq
        go_wp2_with fail
        go_round
        case rel => exact ⟨k + 1, by omega, by go_num, by rw [hs.out]⟩
        case measure => simp [intOf]; omega
    · obtain rfl : k = ns.length := by omega
      go_wp2_with fail
      go_ret
      exact ⟨ret_int hsig.out.symm, b1h.out⟩

theorem specVariablePolarity_any (v : Value) (ns : List Nd) (u : Int) (w : World) (h : Nodes w v ns) :
    Calls Try.prog 39 #[v, .int .i64 u] w fun e w' => e = .returned (.tuple #[.int .i64 (polR ns u), .int .i64 (codeV ns u)]) ∧ Below w.heap.size w w' := by
  have hv := Lib.hid h
  clear h
  have hcode := Lib.hid (l03Code_any v ns u w hv.out)
  by_cases h0 : codeV ns u = 0
  · have hf : formB ns = true := by rcases codeV_cases ns u with h | h | h <;> first | exact h.1 | (exfalso; omega)
    have hr := Lib.hid (show polR ns u = sigT u ns by simp [polR, h0])
    have hg := Lib.hid (l03Signs_any u v ns w hv.out hf)
    have hc := Lib.hid h0
    clear h0 hf
    go_enter Try.func39, Try.ntmps39
    go_wp2_with fail
    refine hcode.out.mono ?_
    rintro e w1 ⟨rfl, rfl⟩
    rw [hc.out]
    go_wp2_with fail
    refine hg.out.mono ?_
    rintro e w2 ⟨rfl, hb2⟩
    go_wp2_with fail
    go_ret2
    exact ⟨by rw [hr.out, hc.out]; rfl, hb2⟩
  · have hr := Lib.hid (show polR ns u = 0 by simp [polR, h0])
    have hne : (codeV ns u != 0) = true := by simpa using h0
    clear h0
    go_enter Try.func39, Try.ntmps39
    go_wp2_with fail
    refine hcode.out.mono ?_
    rintro e w1 ⟨rfl, rfl⟩
    go_wp2_with fail
    go_ret2
    exact ⟨by rw [hr.out]; rfl, Below.refl _ _⟩
end Go.Proofs.Ytbpkogknmhklbaa
