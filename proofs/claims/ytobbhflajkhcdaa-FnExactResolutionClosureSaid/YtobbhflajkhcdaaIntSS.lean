/- Lists of lists of int64: how they read; the laws' functions on them. (written by turnii.py) -/
import Derived.Test.YtobbhflajkhcdaaInts
import Derived.Test.YtobbhflajkhcdaaPred
import Derived.Maps.AppendAt
import Derived.Deep.RegionHeld3
namespace Go.Proofs.Ytobbhflajkhcdaa
open Go.RowKit

theorem Ints.shape {w : World} {v : Value} {xs : List Int} (h : Ints w v xs) : ∃ a c, v = .slice a xs.length c := by
  obtain ⟨_, _, a, c, _, _, hv, _⟩ := h
  exact ⟨a, c, hv⟩

/-- A slice's three parts, and the nodes that it reads. -/
abbrev SlI := (Option Addr × Nat × Nat) × List Int
def slVI (s : SlI) : Value := .slice s.1.1 s.1.2.1 s.1.2.2

/-- A slice of slices: the elements' own values. -/
def SlicesI (w : World) (v : Value) (ss : List SlI) : Prop := Reads w 1 v ss.length (ss.map slVI)

theorem SlicesI.below {w w' : World} {v : Value} {ss : List SlI} {K : Nat} (h : SlicesI w v ss) (hb : Below K w w') (hk : w.heap.size ≤ K) : SlicesI w' v ss := Reads.below h hb hk

theorem SlicesI.opened {w : World} {v : Value} {ss : List SlI} (h : SlicesI w v ss) : ss.length ≤ maxLen ∧ ∃ a c b o, v = .slice a ss.length c ∧ ss.length ≤ c ∧ (ss.length ≤ 0 ∨ 0 < ss.length ∧ a = some ⟨b, o, none⟩) ∧
    Hid (∀ k, k < ss.length → ∃ a n c ns, ss[k]? = some ((a, n, c), ns) ∧ w.cell? ⟨b, o + k, none⟩ = some (.slice a n c)) := by
  obtain ⟨_, h2, a, c, b, o, hv, hc, ha, hcell⟩ := h
  refine ⟨h2, a, c, b, o, hv, hc, ?_, fun k hk => ⟨ss[k].1.1, ss[k].1.2.1, ss[k].1.2.2, ss[k].2, by simp [hk], hcell k _ (by simp [hk, slVI])⟩⟩
  rcases Nat.eq_zero_or_pos ss.length with h | h
  · exact .inl (by omega)
  · exact .inr ⟨h, ha h⟩


set_option maxHeartbeats 800000 in
theorem indexFuncSI_any (g : Nat) (lb : Array Value) (eg : ∀ args w, (callFunc g args).run Try.prog w = .ok (.enter g args) w) (v : Value) (ss : List SlI) (p : SlI → Bool) (w : World) (h : SlicesI w v ss) (hp : Pred Try.prog g lb slVI ss p w) :
    Calls Try.prog 43 #[v, .func (.func g) #[] lb] w fun e w' => (∃ i : Int, e = .returned (.int .i64 i) ∧ -1 ≤ i ∧ Hid (decide (0 ≤ i) = ss.any p)) ∧ Below w.heap.size w w' := by
  obtain ⟨hm, a, c, b, o, rfl, hc, h0, hcell⟩ := h.opened
  unfold maxLen at hm
  have hp := Lib.hid hp
  clear h
  rcases h0 with h0 | ⟨h0, rfl⟩
  all_goals
    go_enter Try.func43, Try.ntmps43
    go_wp2_with fail
    go_loopw [8] (fun i wr => ∃ k : Nat, k ≤ ss.length ∧ i = .int .i64 k ∧ Hid (∀ i x, i < k → ss[i]? = some x → p x = false) ∧ Below w.heap.size w wr) (fun i _ => ss.length - (intOf i).toNat)
    case atStart => exact ⟨0, Nat.zero_le _, rfl, fun j x hj => by omega, Below.refl _ _⟩
    case round =>
      obtain ⟨k, hk, rfl, hall, hb⟩ := hrel
      by_cases hlt : k < ss.length
      · all_goals try (exfalso; omega)
        all_goals
          obtain ⟨xa, xn, xc, xs, hx, hcx⟩ := hcell.out k hlt
          have lx := World.block_lt_of_cell? w _ hcx
          have hcx := (hb.cell (p := ⟨b, o + k, none⟩) lx).trans hcx
          have hcall := hp.out wr ((xa, xn, xc), xs) (List.mem_of_getElem? hx) hb hb.size
          unfold slVI at hcall
          have hcall := Lib.hid hcall
          have hx := Lib.hid hx
          cases hin : p ((xa, xn, xc), xs)
          · go_wp2_with (go_at_fn g; refine hcall.out.mono ?_; rintro e w' ⟨rfl, hb'⟩)
            go_roundw
            case rel =>
              refine ⟨k + 1, by omega, by go_num, fun i z hi hz => ?_, hb.trans (hb'.mono hb.size)⟩
              rcases Nat.lt_or_ge i k with h2 | h2
              · exact hall.out i z h2 hz
              · obtain rfl : i = k := by omega
                rw [hx.out] at hz
                obtain rfl := Option.some.inj hz
                exact hin
            case measure => simp [intOf]; omega
          · have hf := Lib.hid (any_yes hx.out hin)
            go_wp2_with (go_at_fn g; refine hcall.out.mono ?_; rintro e w' ⟨rfl, hb'⟩)
            go_ret
            exact ⟨⟨_, rfl, by omega, by show _ = _; rw [hf.out]; simp⟩, hb.trans (hb'.mono hb.size)⟩
      · obtain rfl : k = ss.length := by omega
        have hf := Lib.hid (any_no hall.out)
        go_wp2_with fail
        go_ret
        exact ⟨⟨_, rfl, by omega, by show _ = _; rw [hf.out]; rfl⟩, hb⟩

theorem containsFuncSI_any (g : Nat) (lb : Array Value) (eg : ∀ args w, (callFunc g args).run Try.prog w = .ok (.enter g args) w) (v : Value) (ss : List SlI) (p : SlI → Bool) (w : World) (h : SlicesI w v ss) (hp : Pred Try.prog g lb slVI ss p w) :
    Calls Try.prog 31 #[v, .func (.func g) #[] lb] w fun e w' => e = .returned (.bool (ss.any p)) ∧ Below w.heap.size w w' := by
  have hp := Lib.hid hp
  go_enter Try.func31, Try.ntmps31
  go_wp2_with (go_at_call 43; refine (indexFuncSI_any g lb eg _ ss p _ h hp.out).mono ?_; rintro e w' ⟨⟨i, rfl, hi, hd⟩, hb⟩)
  go_ret
  exact ⟨ret_bool hd.out, hb⟩

/-- What is read stays where another row is written. -/
theorem ints_grown {w w' : World} {v : Value} {ns : List Int} {row : Option Nat} (h : Ints w v ns) (hg : w.grownBy w' row) (hne : ∀ k, row = some k → v.ownBlock ≠ some k) : Ints w' v ns := by
  obtain ⟨h1, h2, a, c, b, o, rfl, hc, ha, hcell⟩ := h
  refine ⟨h1, h2, a, c, b, o, rfl, hc, ha, fun i u hu => ?_⟩
  have hp : 0 < ns.length := by
    rcases Nat.eq_zero_or_pos ns.length with h0 | h0
    · rw [List.eq_nil_of_length_eq_zero h0] at hu; cases hu
    · exact h0
  obtain rfl := ha hp
  have h3 := hcell i u hu
  exact (World.cell?_of_block (hg.block b (World.block_lt_of_cell? w _ h3) fun e => hne b e.symm rfl)).trans h3


theorem info_ints : (Try.prog.info? 30).map (fun i => (i.zero, i.size, i.bytes)) = some (some (.slice none 0 0), 1, 24) := by kernel_rfl

/-- v reads as a list of lists of int64. -/
def Fi (w : World) (v : Value) (Is : List (List Int)) : Prop := ∃ ss : List SlI, SlicesI w v ss ∧ (∀ s ∈ ss, Ints w (slVI s) s.2) ∧ ss.map (·.2) = Is
theorem Fi.below {w w' : World} {v : Value} {Is : List (List Int)} {K : Nat} (h : Fi w v Is) (hb : Below K w w') (hk : w.heap.size ≤ K) : Fi w' v Is := by
  obtain ⟨ss, h1, h2, h3⟩ := h
  exact ⟨ss, h1.below hb hk, fun s hs => (h2 s hs).below hb hk, h3⟩

theorem grown_setI (w : World) (g o : Nat) (x : Value) : w.grownBy (w.setCell ⟨g, o, none⟩ x) (some g) := ⟨rfl, rfl, rfl, by simp [World.setCell], fun j _ hne => Below.heap_setCell _ _ _ _ (by simpa using hne)⟩


theorem Fi.cells {w : World} {v : Value} {Is : List (List Int)} (h : Fi w v Is) : ∃ a c b o, v = .slice a Is.length c ∧ Is.length ≤ c ∧ Is.length ≤ maxLen ∧ (0 < Is.length → a = some ⟨b, o, none⟩) ∧ Hid (∀ j : Nat, j < Is.length → ∃ vI I, Is[j]? = some I ∧ w.cell? ⟨b, o + j, none⟩ = some vI ∧ Ints w vI I) := by
  obtain ⟨ss, h1, h2, h3⟩ := h
  have hl : ss.length = Is.length := by have := congrArg List.length h3; simpa using this
  obtain ⟨_, hm, a, c, b, o, rfl, hc, ha, hcell⟩ := h1
  rw [hl] at hc hm ha ⊢
  refine ⟨a, c, b, o, rfl, hc, hm, ha, fun j hj => ?_⟩
  have hjs : j < ss.length := by omega
  obtain ⟨s, hs⟩ : ∃ s, ss[j]? = some s := ⟨_, List.getElem?_eq_getElem hjs⟩
  refine ⟨slVI s, s.2, by rw [← h3, List.getElem?_map, hs]; rfl, ?_, h2 s (List.mem_of_getElem? hs)⟩
  exact hcell j _ (by rw [List.getElem?_map, hs]; rfl)


def szRI (l : Int) (n : Nat) : Int := if l < n then -1 else l - n
theorem szRI_lt {l : Int} {n : Nat} (h : l < n) : szRI l n = -1 := if_pos h
theorem szRI_ge {l : Int} {n : Nat} (h : (n : Int) ≤ l) : szRI l n = l - n := if_neg (by omega)
theorem szInt64S_any (v : Value) (ns : List Int) (l : Int) (w : World) (h : Ints w v ns) (h0 : 0 ≤ l) (h1 : l ≤ 1048576) :
    Calls Try.prog 11 #[v, .int .i64 l] w fun e w' => e = .returned (.int .i64 (szRI l ns.length)) ∧ w = w' := by
  obtain ⟨hm, a, c, b, o, rfl, hc, _, _⟩ := h.opened
  unfold maxLen at hm
  clear h
  by_cases hlt : l < ns.length
  · have hf := Lib.hid (szRI_lt hlt)
    go_enter Try.func11, Try.ntmps11
    go_wp2_with fail
    go_ret
    exact ⟨ret_int hf.out.symm, rfl⟩
  · have hf := Lib.hid (szRI_ge (show (ns.length : Int) ≤ l by omega))
    go_enter Try.func11, Try.ntmps11
    go_wp2_with fail
    go_ret
    exact ⟨ret_int hf.out.symm, rfl⟩


set_option maxHeartbeats 1000000 in
theorem szInt64SS_any (v : Value) (Is : List (List Int)) (l : Int) (w : World) (h : Fi w v Is) (h0 : 0 ≤ l) (h1 : l ≤ 1048576) :
    Calls Try.prog 4 #[v, .int .i64 l] w fun e w' => (∃ z : Int, e = .returned (.int .i64 z) ∧ (z = -1 ∨ 0 ≤ z ∧ z ≤ l ∧ Is.length ≤ 1048576 ∧ ∀ I ∈ Is, I.length ≤ 1048576)) ∧ w = w' := by
  obtain ⟨a, c, b, o, rfl, hc, hm, ha, hcell⟩ := h.cells
  unfold maxLen at hm
  clear h
  have hah := Lib.hid ha
  clear ha
  have hw1 : IntKind.i64.wrap (l - (Is.length : Int)) = l - (Is.length : Int) := IntWalk.i64_in _ (by omega)
  by_cases hneg : l - (Is.length : Int) < 0
  · go_enter Try.func4, Try.ntmps4
    go_wp2_with fail
    go_ret
    exact ⟨⟨_, rfl, .inl rfl⟩, rfl⟩
  · go_enter Try.func4, Try.ntmps4
    go_wp2_with fail
    go_loop [1, 5] (fun z i => ∃ (k : Nat) (q : Int), k ≤ Is.length ∧ i = .int .i64 k ∧ z = .int .i64 q ∧ 0 ≤ q ∧ q ≤ l ∧ Hid (∀ (j : Nat) (I : List Int), j < k → Is[j]? = some I → I.length ≤ 1048576)) (fun _ i => Is.length - (intOf i).toNat)
    case atStart => exact ⟨0, _, Nat.zero_le _, rfl, rfl, by omega, by omega, fun j I hj => by omega⟩
    case round =>
      clear hw1
      obtain ⟨k, q, hk, rfl, rfl, hq0, hq1, hall⟩ := hrel
      by_cases hlt : k < Is.length
      · obtain rfl := hah.out (by omega)
        obtain ⟨vI, I, hI, hcI, hnI⟩ := hcell.out k hlt
        obtain ⟨a1, c1, rfl⟩ := hnI.shape
        have hnI := Lib.hid hnI
        have hIh := Lib.hid hI
        clear hI
        by_cases hs : q < (I.length : Int)
        · have hsz := Lib.hid (show szRI q I.length = -1 by unfold szRI; rw [if_pos hs])
          clear hs
          go_wp2_with fail
          refine (szInt64S_any _ I q _ hnI.out hq0 (by omega)).mono ?_
          rintro e w' ⟨rfl, rfl⟩
          rw [hsz.out]
          go_wp2_with fail
          go_ret
          exact ⟨⟨_, rfl, .inl rfl⟩, rfl⟩
        · have hsz := Lib.hid (show szRI q I.length = q - I.length by unfold szRI; rw [if_neg hs])
          have hp : 0 ≤ q - (I.length : Int) := by omega
          go_wp2_with fail
          refine (szInt64S_any _ I q _ hnI.out hq0 (by omega)).mono ?_
          rintro e w' ⟨rfl, rfl⟩
          rw [hsz.out]
          have hIl : I.length ≤ 1048576 := by omega
          have hq2 : q - (I.length : Int) ≤ l := by omega
          generalize q - (I.length : Int) = q' at *
          have hnn : ¬ q' < 0 := by omega
          go_wp2_with fail
          go_round
          case rel =>
            refine ⟨k + 1, q', by omega, by go_num, rfl, hp, hq2, fun j J hj hJ => ?_⟩
            rcases Nat.lt_or_ge j k with h2 | h2
            · exact hall.out j J h2 hJ
            · obtain rfl : j = k := by omega
              rw [hIh.out] at hJ
              obtain rfl : I = J := by simpa using hJ
              exact hIl
          case measure => simp [intOf]; omega
      · obtain rfl : k = Is.length := by omega
        go_wp2_with fail
        go_ret
        refine ⟨⟨q, rfl, .inr ⟨hq0, hq1, by omega, fun I hI => ?_⟩⟩, rfl⟩
        obtain ⟨j, hj⟩ := List.getElem?_of_mem hI
        exact hall.out j I (List.getElem?_eq_some_iff.1 hj).1 hj

def nilSlI : SlI := ((none, 0, 0), [])
theorem made_slicesI (n : Nat) : (madeCells (Value.slice none 0 0).cells (n * 1)).toList = (List.replicate n nilSlI).map slVI := by
  have : (Value.slice none 0 0).cells = #[.slice none 0 0] := rfl
  rw [this, Nat.mul_one, toList_madeCells_one]
  simp [nilSlI, slVI]
theorem set_nextI {α : Type} (ss : List α) (x d : α) (n : Nat) (h : ss.length < n) : (ss ++ List.replicate (n - ss.length) d).set ss.length x = (ss ++ [x]) ++ List.replicate (n - (ss.length + 1)) d := by
  rw [List.set_append_right _ _ (Nat.le_refl _), Nat.sub_self]
  have : n - ss.length = (n - (ss.length + 1)) + 1 := by omega
  rw [this, List.replicate_succ]
  simp


set_option maxHeartbeats 1000000 in
theorem eqInt64SS_same (v v' : Value) (Is : List (List Int)) (w : World) (h : Fi w v Is) (h' : Fi w v' Is) :
    Calls Try.prog 8 #[v, v'] w fun e w' => e = .returned (.bool true) ∧ Below w.heap.size w w' := by
  obtain ⟨a, c, b, o, rfl, hc, hm, ha, hcell⟩ := h.cells
  obtain ⟨a', c', b', o', rfl, hc', _, ha', hcell'⟩ := h'.cells
  unfold maxLen at hm
  clear h h'
  have hah := Lib.hid ha
  have hah' := Lib.hid ha'
  clear ha ha'
  go_enter Try.func8, Try.ntmps8
  go_wp2_with fail
  go_loopw [5] (fun i wr => ∃ k : Nat, k ≤ Is.length ∧ i = .int .i64 k ∧ Below w.heap.size w wr) (fun i _ => Is.length - (intOf i).toNat)
  case atStart => exact ⟨0, Nat.zero_le _, rfl, Below.refl _ _⟩
  case round =>
    obtain ⟨k, hk, rfl, hb⟩ := hrel
    by_cases hlt : k < Is.length
    · obtain rfl := hah.out (by omega)
      obtain rfl := hah'.out (by omega)
      obtain ⟨vI, I, hI, hcI, hnI⟩ := hcell.out k hlt
      obtain ⟨vJ, J, hJ, hcJ, hnJ⟩ := hcell'.out k hlt
      obtain rfl : I = J := by rw [hI] at hJ; simpa using hJ
      have hcI := (hb.cell (p := ⟨b, o + k, none⟩) (World.block_lt_of_cell? w _ hcI)).trans hcI
      have hcJ := (hb.cell (p := ⟨b', o' + k, none⟩) (World.block_lt_of_cell? w _ hcJ)).trans hcJ
      obtain ⟨a1, c1, rfl⟩ := hnI.shape
      obtain ⟨a2, c2, rfl⟩ := hnJ.shape
      have heq := Lib.hid (fun W (hW : Below w.heap.size w W) => eqInt64S_same _ _ I W (hnI.below hW (Nat.le_refl _)) (hnJ.below hW (Nat.le_refl _)))
      have hki : (k : Int) < (Is.length : Int) := by omega
      clear hI hJ hnI hnJ
      go_wp2_with fail
      (first | (go_region_held3 (fun W => Below w.heap.size w W ∧ W.cell? ⟨b, o + k, none⟩ = some (.slice a1 I.length c1) ∧ W.cell? ⟨b', o' + k, none⟩ = some (.slice a2 I.length c2)) (first | (refine ⟨?_, ?_, ?_⟩ <;> (first | assumption | (exact Below.drew (by assumption)))) | (obtain ⟨hs1, hs2, hs3⟩ := ‹Below _ _ _ ∧ _ ∧ _›; exact ⟨keep_step (by assumption) hs1, keep_cell (by assumption) hs2, keep_cell (by assumption) hs3⟩)) (first | (go_at_call 22; refine (heq.out _ (And.left ‹Below w.heap.size w _ ∧ _ ∧ _›)).mono ?_; rintro e w' ⟨rfl, hb'⟩))) | fail)
      all_goals
        go_wp2_with fail
        go_roundw
        case rel => exact ⟨k + 1, by omega, by go_num, by first | assumption | exact (‹Below w.heap.size w _ ∧ _ ∧ _›).1⟩
        case measure => simp [intOf]; omega
    · obtain rfl : k = Is.length := by omega
      go_wp2_with fail
      go_ret
      exact ⟨rfl, hb⟩
end Go.Proofs.Ytobbhflajkhcdaa
