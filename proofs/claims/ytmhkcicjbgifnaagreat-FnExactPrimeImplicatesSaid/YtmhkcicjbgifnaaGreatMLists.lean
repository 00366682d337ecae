/- Lists of formulas: slices whose elements are slices of nodes; slices.IndexFunc and slices.ContainsFunc on them; areFormulas. -/
import Derived.Test.YtmhkcicjbgifnaaGreatMForm

namespace Go.Proofs.YtmhkcicjbgifnaaGreat
open Go.RowKit

/-- A slice's three parts, and the nodes that it reads. -/
abbrev Sl := (Option Addr × Nat × Nat) × List Nd
def slV (s : Sl) : Value := .slice s.1.1 s.1.2.1 s.1.2.2

/-- A slice of slices: the elements' own values. -/
def Slices (w : World) (v : Value) (ss : List Sl) : Prop := Reads w 1 v ss.length (ss.map slV)

theorem Slices.below {w w' : World} {v : Value} {ss : List Sl} {K : Nat} (h : Slices w v ss) (hb : Below K w w') (hk : w.heap.size ≤ K) : Slices w' v ss := Reads.below h hb hk

theorem Slices.opened {w : World} {v : Value} {ss : List Sl} (h : Slices w v ss) : ss.length ≤ maxLen ∧ ∃ a c b o, v = .slice a ss.length c ∧ ss.length ≤ c ∧ (ss.length ≤ 0 ∨ 0 < ss.length ∧ a = some ⟨b, o, none⟩) ∧
    Hid (∀ k, k < ss.length → ∃ a n c ns, ss[k]? = some ((a, n, c), ns) ∧ w.cell? ⟨b, o + k, none⟩ = some (.slice a n c)) := by
  obtain ⟨_, h2, a, c, b, o, hv, hc, ha, hcell⟩ := h
  refine ⟨h2, a, c, b, o, hv, hc, ?_, fun k hk => ⟨ss[k].1.1, ss[k].1.2.1, ss[k].1.2.2, ss[k].2, by simp [hk], hcell k _ (by simp [hk, slV])⟩⟩
  rcases Nat.eq_zero_or_pos ss.length with h | h
  · exact .inl (by omega)
  · exact .inr ⟨h, ha h⟩

set_option maxHeartbeats 800000 in
theorem indexFuncS_any (g : Nat) (lb : Array Value) (eg : ∀ args w, (callFunc g args).run Tryz.prog w = .ok (.enter g args) w) (v : Value) (ss : List Sl) (p : Sl → Bool) (w : World) (h : Slices w v ss) (hp : Pred Tryz.prog g lb slV ss p w) :
    Calls Tryz.prog 66 #[v, .func (.func g) #[] lb] w fun e w' => (∃ i : Int, e = .returned (.int .i64 i) ∧ -1 ≤ i ∧ Hid (decide (0 ≤ i) = ss.any p)) ∧ Below w.heap.size w w' := by
  obtain ⟨hm, a, c, b, o, rfl, hc, h0, hcell⟩ := h.opened
  unfold maxLen at hm
  have hp := Lib.hid hp
  clear h
  rcases h0 with h0 | ⟨h0, rfl⟩
  all_goals
    go_enter Tryz.func66, Tryz.ntmps66
    go_wp2_with fail
    go_loopw [8] (fun i wr => ∃ k : Nat, k ≤ ss.length ∧ i = .int .i64 k ∧ Hid (∀ i x, i < k → ss[i]? = some x → p x = false) ∧ Below w.heap.size w wr) (fun i _ => ss.length - (intOf i).toNat)
    case atStart => exact ⟨0, Nat.zero_le _, rfl, fun j x hj => by omega, Below.refl _ _⟩
    case round =>
      obtain ⟨k, hk, rfl, hall, hb⟩ := hrel
      by_cases hlt : k < ss.length
      · all_goals try (exfalso; omega)
        all_goals
          obtain ⟨xa, xn, xc, xs, hx, hcx⟩ := hcell.out k hlt
          have lx := World.block_lt_of_cell? w _ hcx
          have hcx := (hb.cell (p := ⟨b, o + k, none⟩) lx).trans hcx
          have hcall := hp.out wr ((xa, xn, xc), xs) (List.mem_of_getElem? hx) hb hb.size
          unfold slV at hcall
          have hcall := Lib.hid hcall
          have hx := Lib.hid hx
          cases hin : p ((xa, xn, xc), xs)
          · go_wp2_with (go_at_fn g; refine hcall.out.mono ?_; rintro e w' ⟨rfl, hb'⟩)
            go_roundw
            case rel =>
              refine ⟨k + 1, by omega, by go_num, fun i z hi hz => ?_, hb.trans (hb'.mono hb.size)⟩
              rcases Nat.lt_or_ge i k with h2 | h2
              · exact hall.out i z h2 hz
              · obtain rfl : i = k := by omega
                rw [hx.out] at hz
                obtain rfl := Option.some.inj hz
                exact hin
            case measure => simp [intOf]; omega
          · have hf := Lib.hid (any_yes hx.out hin)
            go_wp2_with (go_at_fn g; refine hcall.out.mono ?_; rintro e w' ⟨rfl, hb'⟩)
            go_ret
            exact ⟨⟨_, rfl, by omega, by show _ = _; rw [hf.out]; simp⟩, hb.trans (hb'.mono hb.size)⟩
      · obtain rfl : k = ss.length := by omega
        have hf := Lib.hid (any_no hall.out)
        go_wp2_with fail
        go_ret
        exact ⟨⟨_, rfl, by omega, by show _ = _; rw [hf.out]; rfl⟩, hb⟩

theorem containsFuncS_any (g : Nat) (lb : Array Value) (eg : ∀ args w, (callFunc g args).run Tryz.prog w = .ok (.enter g args) w) (v : Value) (ss : List Sl) (p : Sl → Bool) (w : World) (h : Slices w v ss) (hp : Pred Tryz.prog g lb slV ss p w) :
    Calls Tryz.prog 38 #[v, .func (.func g) #[] lb] w fun e w' => e = .returned (.bool (ss.any p)) ∧ Below w.heap.size w w' := by
  have hp := Lib.hid hp
  go_enter Tryz.func38, Tryz.ntmps38
  go_wp2_with (go_at_call 66; refine (indexFuncS_any g lb eg _ ss p _ h hp.out).mono ?_; rintro e w' ⟨⟨i, rfl, hi, hd⟩, hb⟩)
  go_ret
  exact ⟨ret_bool hd.out, hb⟩

theorem areFormulas1_pred (ss : List Sl) (w : World) (h : ∀ s ∈ ss, Nodes w (slV s) s.2) : Pred Tryz.prog 64 #[] slV ss (fun s => !formB s.2) w := by
  intro W s hs hb hsz
  have hn := Lib.hid ((h s hs).below hb (Nat.le_refl _))
  obtain ⟨⟨a, n, c⟩, ns⟩ := s
  unfold slV at *
  show Calls Tryz.prog 64 #[.slice a n c] W _
  go_enter Tryz.func64, Tryz.ntmps64
  go_wp2_with fail
  refine (isFormula_any _ _ _ hn.out).mono ?_
  rintro e w' ⟨rfl, hb'⟩
  go_wp2_with fail
  go_ret
  exact ⟨rfl, hb'⟩

theorem areFormulas_any (v : Value) (ss : List Sl) (w : World) (h : Slices w v ss) (hs : ∀ s ∈ ss, Nodes w (slV s) s.2) :
    Calls Tryz.prog 37 #[v] w fun e w' => e = .returned (.bool (ss.all fun s => formB s.2)) ∧ Below w.heap.size w w' := by
  have hf := Lib.hid (not_any ss fun s => formB s.2)
  have heg := Lib.hid (enters_of Tryz.func64 (by kernel_rfl) rfl)
  go_enter Tryz.func37, Tryz.ntmps37
  go_wp2_with fail
  refine (containsFuncS_any _ _ heg.out _ ss _ _ h (areFormulas1_pred ss _ hs)).mono ?_
  rintro e w' ⟨rfl, hb⟩
  go_wp2_with fail
  go_ret
  exact ⟨ret_bool hf.out, hb⟩

theorem slices_two (w : World) (a a' : Option Addr) (n n' c c' : Nat) (ns ns' : List Nd) (t : TypeId) : Slices (w.alloc (.cells #[.slice a n c, .slice a' n' c'] t)) (.slice (some ⟨w.heap.size, 0, none⟩) 2 2) [((a, n, c), ns), ((a', n', c'), ns')] := by
  refine ⟨rfl, by show 2 ≤ maxLen; unfold maxLen; omega, _, 2, w.heap.size, 0, rfl, by show 2 ≤ 2; omega, fun _ => rfl, fun i u hu => ?_⟩
  rw [World.cell?_alloc_at _ _ _ _ rfl]
  match i, hu with
  | 0, hu => simpa [slV] using hu
  | 1, hu => simpa [slV] using hu
  | i + 2, hu => simp at hu

/-- areFormulas at two formulas, in the world in which their list was just made. -/
theorem areFormulas_two (w : World) (a a' : Option Addr) (n n' c c' : Nat) (ns ns' : List Nd) (t : TypeId) (h : Nodes w (.slice a n c) ns) (h' : Nodes w (.slice a' n' c') ns') :
    Calls Tryz.prog 37 #[.slice (some ⟨w.heap.size, 0, none⟩) 2 2] (w.alloc (.cells #[.slice a n c, .slice a' n' c'] t)) fun e w' => e = .returned (.bool (formB ns && formB ns')) ∧ Below w.heap.size w w' := by
  have hba := (Below.refl w.heap.size w).alloc (Nat.le_refl _) (.cells #[.slice a n c, .slice a' n' c'] t)
  refine (areFormulas_any _ [((a, n, c), ns), ((a', n', c'), ns')] _ (slices_two _ _ _ _ _ _ _ _ _ _) ?_).mono ?_
  · intro s hs
    rcases List.mem_cons.1 hs with rfl | hs
    · exact h.below hba (Nat.le_refl _)
    · rcases List.mem_cons.1 hs with rfl | hs
      · exact h'.below hba (Nat.le_refl _)
      · cases hs
  · rintro e w' ⟨rfl, hb⟩
    exact ⟨ret_bool (by simp), hba.trans (hb.mono hba.size)⟩
end Go.Proofs.YtmhkcicjbgifnaaGreat
