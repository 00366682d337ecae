/- slices.IndexFunc and slices.ContainsFunc at []int64, for whatever function value; relations and frames. -/
import Derived.Test.YtjjnnlfcdncefaaMaskOf
import Derived.Test.YtjjnnlfcdncefaaPred
import Derived.Deep.QuietTactic
import Derived.BigQuiet
import Derived.Deep.RegionHeld3
namespace Go.Proofs.Ytjjnnlfcdncefaa
open Go.RowKit

set_option maxHeartbeats 800000 in
theorem indexFuncI_any (g : Nat) (lb : Array Value) (eg : ∀ args w, (callFunc g args).run Try.prog w = .ok (.enter g args) w) (v : Value) (xs : List Int) (p : Int → Bool) (w : World) (h : Ints w v xs) (hp : Pred Try.prog g lb (Value.int .i64) xs p w) :
    Calls Try.prog 98 #[v, .func (.func g) #[] lb] w fun e w' => (∃ i : Int, e = .returned (.int .i64 i) ∧ -1 ≤ i ∧ Hid (decide (0 ≤ i) = xs.any p)) ∧ Below w.heap.size w w' := by
  obtain ⟨hm, a, c, b, o, rfl, hc, h0, hcell⟩ := h.opened
  unfold maxLen at hm
  have hp := Lib.hid hp
  clear h
  rcases h0 with h0 | ⟨h0, rfl⟩
  all_goals
    go_enter Try.func98, Try.ntmps98
    go_wp2_with fail
    go_loopw [8] (fun i wr => ∃ k : Nat, k ≤ xs.length ∧ i = .int .i64 k ∧ Hid (∀ i x, i < k → xs[i]? = some x → p x = false) ∧ Below w.heap.size w wr) (fun i _ => xs.length - (intOf i).toNat)
    case atStart => exact ⟨0, Nat.zero_le _, rfl, fun j x hj => by omega, Below.refl _ _⟩
    case round =>
      obtain ⟨k, hk, rfl, hall, hb⟩ := hrel
      by_cases hlt : k < xs.length
      · all_goals try (exfalso; omega)
        all_goals
          obtain ⟨x, hx, hcx⟩ := hcell.out k hlt
          have hcx := (hb.cell (p := ⟨b, o + k, none⟩) (World.block_lt_of_cell? w _ hcx)).trans hcx
          have hcall := Lib.hid (hp.out wr x (List.mem_of_getElem? hx) hb hb.size)
          have hx := Lib.hid hx
          cases hin : p x
          · go_wp2_with (go_at_fn g; refine hcall.out.mono ?_; rintro e w' ⟨rfl, hb'⟩)
            go_roundw
            case rel =>
              refine ⟨k + 1, by omega, by go_num, fun i y hi hy => ?_, hb.trans (hb'.mono hb.size)⟩
              rcases Nat.lt_or_ge i k with h2 | h2
              · exact hall.out i y h2 hy
              · obtain rfl : i = k := by omega
                rw [hx.out] at hy
                obtain rfl := Option.some.inj hy
                exact hin
            case measure => simp [intOf]; omega
          · have hf := Lib.hid (any_yes hx.out hin)
            go_wp2_with (go_at_fn g; refine hcall.out.mono ?_; rintro e w' ⟨rfl, hb'⟩)
            go_ret
            exact ⟨⟨_, rfl, by omega, by show _ = _; rw [hf.out]; simp⟩, hb.trans (hb'.mono hb.size)⟩
      · obtain rfl : k = xs.length := by omega
        have hf := Lib.hid (any_no hall.out)
        go_wp2_with fail
        go_ret
        exact ⟨⟨_, rfl, by omega, by show _ = _; rw [hf.out]; rfl⟩, hb⟩

theorem containsFuncI_any (g : Nat) (lb : Array Value) (eg : ∀ args w, (callFunc g args).run Try.prog w = .ok (.enter g args) w) (v : Value) (xs : List Int) (p : Int → Bool) (w : World) (h : Ints w v xs) (hp : Pred Try.prog g lb (Value.int .i64) xs p w) :
    Calls Try.prog 84 #[v, .func (.func g) #[] lb] w fun e w' => e = .returned (.bool (xs.any p)) ∧ Below w.heap.size w w' := by
  have hp := Lib.hid hp
  go_enter Try.func84, Try.ntmps84
  go_wp2_with (go_at_call 98; refine (indexFuncI_any g lb eg _ xs p _ h hp.out).mono ?_; rintro e w' ⟨⟨i, rfl, hi, hd⟩, hb⟩)
  go_ret
  exact ⟨ret_bool hd.out, hb⟩

theorem sizeI_any (v : Value) (xs : List Int) (w : World) (h : Ints w v xs) :
    Calls Try.prog 79 #[v] w fun e w' => e = .returned (.int .i64 xs.length) ∧ w = w' := by
  obtain ⟨hm, a, c, b, o, rfl, hc, h0, hcell⟩ := h.opened
  unfold maxLen at hm
  clear h h0
  go_enter Try.func79, Try.ntmps79
  go_wp2
  go_ret
  exact ⟨rfl, rfl⟩

/-- Whether a list is a relation on n elements. -/
def masksB (n : Int) (xs : List Int) : Bool := xs.all (isMaskB n)
def relB (xs : List Int) : Bool := masksB xs.length xs

theorem isRelation1_any (x : Int) (v : Value) (xs : List Int) (bx : Nat) (w : World) (h : Ints w v xs) (hb : w.cell? ⟨bx, 0, none⟩ = some v) :
    Calls Try.prog 97 #[.int .i64 x, .pointer (some ⟨bx, 0, none⟩)] w fun e w' => e = .returned (.bool (!isMaskB xs.length x)) ∧ w = w' := by
  have hv := h
  obtain ⟨hm, a, c, b, o, rfl, hc, h0, hcell⟩ := h.opened
  clear h h0 hcell
  have hv := Lib.hid hv
  go_enter Try.func97, Try.ntmps97
  go_wp2_with (first | (go_at_call 79; refine (sizeI_any _ xs _ hv.out).mono ?_; rintro e w' ⟨rfl, rfl⟩) | (go_at_call 88; refine (isMask_any _ _ _).mono ?_; rintro e w' ⟨rfl, rfl⟩))
  go_ret
  exact ⟨rfl, rfl⟩

theorem isRelation_any (v : Value) (xs : List Int) (w : World) (h : Ints w v xs) :
    Calls Try.prog 80 #[v] w fun e w' => e = .returned (.bool (relB xs)) ∧ Below w.heap.size w w' := by
  have hf := Lib.hid (show (!(xs.any fun x => !isMaskB xs.length x)) = relB xs by unfold relB masksB; rw [List.not_any_eq_all_not]; simp)
  obtain ⟨_, a, c, b, o, rfl, _⟩ := h.opened
  have h := Lib.hid h
  have hp : ∀ W : World, Pred Try.prog 97 #[.pointer (some ⟨w.heap.size, 0, none⟩)] (Value.int .i64) xs (fun x => !isMaskB xs.length x) (w.alloc (.cells #[.slice a xs.length c] 22)) := by
    intro _ W x _ hb hs
    have h2 : Ints W (.slice a xs.length c) xs := (h.out.below ((Below.refl w.heap.size w).alloc (Nat.le_refl _) (.cells #[.slice a xs.length c] 22)) (Nat.le_refl _)).below hb (Nat.le_refl _)
    refine (isRelation1_any x _ xs w.heap.size W h2 ?_).mono ?_
    · exact (hb.cell (p := ⟨w.heap.size, 0, none⟩) (by simp)).trans (by simp)
    · rintro e w' ⟨rfl, rfl⟩
      exact ⟨rfl, Below.refl _ _⟩
  have hp := Lib.hid hp
  go_enter Try.func80, Try.ntmps80
  go_wp2_with (go_at_call 84; refine (containsFuncI_any 97 _ (enters_of Try.func97 (by kernel_rfl) rfl) _ xs _ _ (h.out.below ((Below.refl w.heap.size w).alloc (Nat.le_refl _) _) (Nat.le_refl _)) (hp.out w)).mono ?_; rintro e w' ⟨rfl, hb⟩)
  go_ret
  exact ⟨ret_bool hf.out, ((Below.refl _ _).alloc (Nat.le_refl _) _).trans (hb.mono (by simp))⟩

set_option maxHeartbeats 400000 in
theorem l01Masks_any (n : Int) (hn0 : 0 ≤ n) (hn1 : n ≤ 30) (v : Value) (xs : List Int) (w : World) (h : Ints w v xs) :
    Calls Try.prog 78 #[.int .i64 n, v] w fun e w' => e = .returned (.bool (masksB n xs)) ∧ Below w.heap.size w w' := by
  obtain ⟨hm, a, c, b, o, rfl, hc, h0, hcell⟩ := h.opened
  unfold maxLen at hm
  clear h
  have hall' := Lib.hid (show ∀ x, isMaskB n x = inR x 0 (full n) from fun x => by simp [isMaskB, inR_yes hn0 hn1])
  rcases h0 with h0 | ⟨h0, rfl⟩
  all_goals
    go_enter Try.func78, Try.ntmps78
    go_wp2_with fail
    go_loopw [5] (fun i wr => ∃ k : Nat, k ≤ xs.length ∧ i = .int .i64 k ∧ Hid (∀ i x, i < k → xs[i]? = some x → isMaskB n x = true) ∧ Below w.heap.size w wr) (fun i _ => xs.length - (intOf i).toNat)
    case atStart => exact ⟨0, Nat.zero_le _, rfl, fun j x hj => by omega, Below.refl _ _⟩
    case round =>
      obtain ⟨k, hk, rfl, hall, hb⟩ := hrel
      by_cases hlt : k < xs.length
      · all_goals try (exfalso; omega)
        all_goals
          obtain ⟨x, hx, hcx⟩ := hcell.out k hlt
          have hcx := (hb.cell (p := ⟨b, o + k, none⟩) (World.block_lt_of_cell? w _ hcx)).trans hcx
          have hx := Lib.hid hx
          cases hin : inR x 0 (full n)
          · have hf := Lib.hid (show masksB n xs = false from all_bad hx.out (by rw [hall'.out]; exact hin))
            go_wp2_with fail
            go_quiet (first | (go_at_call 82; exact quiet_eq (l01Full_any _ hn0 (by omega) _)) | (go_at_call 77; exact quiet_eq (l01In_any _ _ _ _)))
            go_wp2_with fail
            go_ret
            exact ⟨ret_bool hf.out.symm, below_drewN hb _⟩
          · go_wp2_with fail
            go_quiet (first | (go_at_call 82; exact quiet_eq (l01Full_any _ hn0 (by omega) _)) | (go_at_call 77; exact quiet_eq (l01In_any _ _ _ _)))
            go_wp2_with fail
            go_roundw
            case rel =>
              refine ⟨k + 1, by omega, by go_num, fun i y hi hy => ?_, below_drewN hb _⟩
              rcases Nat.lt_or_ge i k with h2 | h2
              · exact hall.out i y h2 hy
              · obtain rfl : i = k := by omega
                rw [hx.out] at hy
                obtain rfl := Option.some.inj hy
                rw [hall'.out]; exact hin
            case measure => simp [intOf]; omega
      · obtain rfl : k = xs.length := by omega
        have hf := Lib.hid (show masksB n xs = true from all_good hall.out)
        go_wp2_with fail
        go_ret
        exact ⟨ret_bool hf.out.symm, hb⟩
end Go.Proofs.Ytjjnnlfcdncefaa
