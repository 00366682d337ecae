/- Walks of MaskOf and ChooseMasks, of the program and of the reference. -/
import Derived.Test.YtdpnkojchimmfaaQBRelMathBM
import Derived.Test.YtdpnkojchimmfaaQBPredM
import Derived.Test.YtdpnkojchimmfaaQBReplM

namespace Go.Proofs.Ytdpnkojchimmfaa
open Go.RowKit

/-- The mask of the numbers of a list. -/
def orBits (xs : List Int) : Nat := xs.foldl (fun acc x => acc ||| 2 ^ x.toNat) 0

theorem orBits_succ (xs : List Int) (k : Nat) (x : Int) (hx : xs[k]? = some x) : orBits (xs.take (k + 1)) = orBits (xs.take k) ||| 2 ^ x.toNat := by
  have hk : k < xs.length := (List.getElem?_eq_some_iff.1 hx).1
  have e : xs.take (k + 1) = xs.take k ++ [x] := by
    rw [List.take_add_one, hx]; rfl
  rw [e]
  simp [orBits, List.foldl_append]

theorem or_step (m x : Int) (h0 : 0 ≤ m) (h1 : m < 1073741824) (_h2 : 0 ≤ x) (h3 : x ≤ 29) :
    bits BinOp.or IntKind.i64 m (2 ^ x.toNat) = ((m.toNat ||| 2 ^ x.toNat : Nat) : Int) ∧ 0 ≤ bits BinOp.or IntKind.i64 m (2 ^ x.toNat) ∧ bits BinOp.or IntKind.i64 m (2 ^ x.toNat) < 1073741824 := by
  have hp := pow_bounds x 29 (by omega)
  rw [show (2 : Int) ^ 29 = 536870912 by decide] at hp
  have e : ((2 : Int) ^ x.toNat) = ((2 ^ x.toNat : Nat) : Int) := by simp
  have hq : (2 : Nat) ^ x.toNat < 2 ^ 30 := by rw [e] at hp; omega
  have hr : m.toNat ||| 2 ^ x.toNat < 2 ^ 30 := Nat.or_lt_two_pow (by omega) hq
  rw [e] at hp
  rw [e, i64_or _ _ h0 (by omega) (by omega) (by omega), Int.toNat_natCast]
  refine ⟨rfl, by omega, by omega⟩

def maskOfCode (n : Int) (xs : List Int) : Int := if inR n 0 30 then if xs.all (inR · 0 (n - 1)) then 0 else 1 else 2
def maskOfR (n : Int) (xs : List Int) : Int := if inR n 0 30 && xs.all (inR · 0 (n - 1)) then (orBits xs : Nat) else 0


end Go.Proofs.Ytdpnkojchimmfaa

/- Walks of VariablesOf, of the program and of the reference. -/
namespace Go.Proofs.Ytdpnkojchimmfaa
open Go.RowKit

/-- The variables' numbers of a formula, in order of place. -/
def varL (ns : List Nd) : List Int := (ns.filter fun n => decide (n.1 = 0)).map (·.2)

theorem varL_succ (ns : List Nd) (k : Nat) (x y : Int) (hx : ns[k]? = some (x, y)) : varL (ns.take (k + 1)) = varL (ns.take k) ++ (if x = 0 then [y] else []) := by
  have e : ns.take (k + 1) = ns.take k ++ [(x, y)] := by
    rw [List.take_add_one, hx]; rfl
  rw [e]
  unfold varL
  rw [List.filter_append, List.map_append]
  by_cases h : x = 0 <;> simp [List.filter, h]

theorem varMask_yes (ns : List Nd) (k : Nat) (x y : Int) (hx : ns[k]? = some (x, y)) (h : x = 0) : orBits (varL (ns.take (k + 1))) = orBits (varL (ns.take k)) ||| 2 ^ y.toNat := by
  rw [varL_succ ns k x y hx, if_pos h]
  simp [orBits, List.foldl_append]

theorem varMask_no (ns : List Nd) (k : Nat) (x y : Int) (hx : ns[k]? = some (x, y)) (h : x ≠ 0) : orBits (varL (ns.take (k + 1))) = orBits (varL (ns.take k)) := by
  rw [varL_succ ns k x y hx, if_neg h, List.append_nil]

theorem nodeB_bound {ns : List Nd} {k : Nat} {x y : Int} (hg : ns.all nodeB = true) (hx : ns[k]? = some (x, y)) : 0 ≤ x ∧ x ≤ 6 ∧ 0 ≤ y ∧ y ≤ 5 := by
  have h := List.all_eq_true.1 hg (x, y) (List.mem_of_getElem? hx)
  rw [nodeB_spec] at h
  simp only [Bool.and_eq_true, Bool.or_eq_true, decide_eq_true_eq, inR_iff] at h
  omega

def varMask (ns : List Nd) : Int := (orBits (varL ns) : Nat)
def varsR (ns : List Nd) : List Int := if formB ns then mem (varMask ns) else []
theorem form_all {ns : List Nd} (h : formB ns = true) : ns.all nodeB = true := by
  simp only [formB, Bool.and_eq_true] at h
  exact h.1.2

theorem orBits_bound (xs : List Int) (h : ∀ x ∈ xs, x ≤ 5) : orBits xs < 64 := by
  suffices hh : ∀ (xs : List Int) (acc : Nat), acc < 2 ^ 6 → (∀ x ∈ xs, x ≤ 5) → xs.foldl (fun acc x => acc ||| 2 ^ x.toNat) acc < 2 ^ 6 from hh xs 0 (by omega) h
  intro xs
  induction xs with
  | nil => intro acc h _; exact h
  | cons x xs ih =>
    intro acc h hx
    refine ih _ (Nat.or_lt_two_pow h (Nat.pow_lt_pow_right (by omega) ?_)) (fun z hz => hx z (by simp [hz]))
    have := hx x (by simp)
    omega

theorem varMask_bound {ns : List Nd} (hg : ns.all nodeB = true) : 0 ≤ varMask ns ∧ varMask ns < 64 := by
  have : orBits (varL ns) < 64 := orBits_bound _ fun x hx => by
    simp only [varL, List.mem_map, List.mem_filter, decide_eq_true_eq] at hx
    obtain ⟨⟨a, b⟩, ⟨h1, h2⟩, rfl⟩ := hx
    obtain ⟨k, hk⟩ := List.getElem?_of_mem h1
    have := nodeB_bound hg hk
    show b ≤ 5
    omega
  unfold varMask
  omega

theorem varsR_length (ns : List Nd) : (varsR ns).length ≤ 64 := by
  unfold varsR
  split
  · have := mem_length_le (varMask ns); omega
  · simp

set_option maxHeartbeats 800000 in
theorem variableMask_any (v : Value) (ns : List Nd) (w : World) (h : Nodes w v ns) (hg : ns.all nodeB = true) :
    Calls Try.prog 67 #[v] w fun e w' => e = .returned (.int .i64 (varMask ns)) ∧ Below w.heap.size w w' := by
  obtain ⟨hm, a, c, b, o, rfl, hc, h0, hcell⟩ := h.opened
  unfold maxLen at hm
  have hg := Lib.hid hg
  clear h
  rcases h0 with h0 | ⟨h0, rfl⟩
  all_goals
    go_enter Try.func67, Try.ntmps67
    go_wp2_with fail
    go_loopw [3, 8] (fun mm i wr => ∃ (k : Nat) (m : Int), k ≤ ns.length ∧ i = .int .i64 k ∧ mm = .int .i64 m ∧ 0 ≤ m ∧ m < 1073741824 ∧ Hid (m = (orBits (varL (ns.take k)) : Nat)) ∧ Below w.heap.size w wr) (fun _ i _ => ns.length - (intOf i).toNat)
    case atStart => exact ⟨0, 0, Nat.zero_le _, rfl, rfl, by omega, by omega, rfl, Below.refl _ _⟩
    case round =>
      obtain ⟨k, m, hk, rfl, rfl, m0, m1, hmm, hb⟩ := hrel
      by_cases hlt : k < ns.length
      · all_goals try (exfalso; omega)
        all_goals
          obtain ⟨x, y, hx, hcx, hcy⟩ := hcell.out k hlt
          have lx := World.block_lt_of_cell? w _ hcx
          have hcx := (hb.cell (p := ⟨b, o + k * 2, none⟩) lx).trans hcx
          have hcy := (hb.cell (p := ⟨b, o + k * 2 + 1, none⟩) lx).trans hcy
          obtain ⟨hx0, hx6, hy0, hy5⟩ := nodeB_bound hg.out hx
          have hx := Lib.hid hx
          have hs := hb.size
          by_cases h3 : x = 0
          · have hs := or_step m y m0 m1 hy0 (by omega)
            have hs1 := Lib.hid hs.1
            obtain ⟨hs2, hs3⟩ := hs.2
            clear hs
            have hp := pow_bounds y 29 (by omega)
            rw [show (2 : Int) ^ 29 = 536870912 by decide] at hp
            obtain ⟨hp1, hp2⟩ := hp
            have hv := Lib.hid (varMask_yes ns k x y hx.out h3)
            subst h3
            go_wp2_with fail
            go_roundw
            case rel =>
              refine ⟨k + 1, _, by omega, by go_num, rfl, hs2, hs3, ?_, hb.alloc (by omega) _⟩
              show _ = _
              rw [hs1.out, hv.out, hmm.out, Int.toNat_natCast]
            case measure => simp [intOf]; omega
          · have h3' : (x == 0) = false := by simpa using h3
            have hv := Lib.hid (varMask_no ns k x y hx.out h3)
            clear h3
            go_wp2_with fail
            go_roundw
            case rel =>
              refine ⟨k + 1, _, by omega, by go_num, rfl, m0, m1, ?_, hb.alloc (by omega) _⟩
              show _ = _
              rw [hv.out, hmm.out]
            case measure => simp [intOf]; omega
      · obtain rfl : k = ns.length := by omega
        have h1 := hmm.out
        rw [List.take_length] at h1
        have h2 := Lib.hid h1
        clear h1
        go_wp2_with fail
        go_ret
        exact ⟨by rw [h2.out]; rfl, hb⟩

set_option maxHeartbeats 800000 in
theorem l02Variables_any (v : Value) (ns : List Nd) (w : World) (h : Nodes w v ns) (hg : ns.all nodeB = true) :
    Calls Try.prog 59 #[v] w fun e w' => ∃ v, e = .returned v ∧ w'.ownsRow w.heap.size 2 1 v (mem (varMask ns)).length ((mem (varMask ns)).map (Value.int .i64)) ∧ Below w.heap.size w w' := by
  obtain ⟨hm, a, c, b, o, rfl, hc, h0, hcell⟩ := h.opened
  unfold maxLen at hm
  have hg := Lib.hid hg
  clear h
  rcases h0 with h0 | ⟨h0, rfl⟩
  all_goals
    go_enter Try.func59, Try.ntmps59
    go_wp2_with fail
    go_loop [3, 4] (fun mm i => ∃ (k : Nat) (m : Int), k ≤ ns.length ∧ i = .int .i64 k ∧ mm = .int .i64 m ∧ 0 ≤ m ∧ m < 1073741824 ∧ Hid (m = (orBits (varL (ns.take k)) : Nat))) (fun _ i => ns.length - (intOf i).toNat)
    case atStart => exact ⟨0, 0, Nat.zero_le _, rfl, rfl, by omega, by omega, rfl⟩
    case round =>
      obtain ⟨k, m, hk, rfl, rfl, m0, m1, hmm⟩ := hrel
      by_cases hlt : k < ns.length
      · all_goals try (exfalso; omega)
        all_goals
          obtain ⟨x, y, hx, hcx, hcy⟩ := hcell.out k hlt
          obtain ⟨hx0, hx6, hy0, hy5⟩ := nodeB_bound hg.out hx
          have hx := Lib.hid hx
          by_cases h3 : x = 0
          · have hs := or_step m y m0 m1 hy0 (by omega)
            have hs1 := Lib.hid hs.1
            obtain ⟨hs2, hs3⟩ := hs.2
            clear hs
            have hv := Lib.hid (varMask_yes ns k x y hx.out h3)
            subst h3
            go_wp2_with (go_at_call 85; refine (l01One_any _ hy0 (by omega) _).mono ?_; rintro e w' ⟨rfl, rfl⟩)
            go_round
            case rel =>
              refine ⟨k + 1, _, by omega, by go_num, rfl, hs2, hs3, ?_⟩
              show _ = _
              rw [hs1.out, hv.out, hmm.out, Int.toNat_natCast]
            case measure => simp [intOf]; omega
          · have h3' : (x == 0) = false := by simpa using h3
            have hv := Lib.hid (varMask_no ns k x y hx.out h3)
            clear h3
            go_wp2_with fail
            go_round
            case rel =>
              refine ⟨k + 1, _, by omega, by go_num, rfl, m0, m1, ?_⟩
              show _ = _
              rw [hv.out, hmm.out]
            case measure => simp [intOf]; omega
      · obtain rfl : k = ns.length := by omega
        have h1 := hmm.out
        rw [List.take_length] at h1
        have h2 := Lib.hid (show m = varMask ns from h1)
        clear h1
        have hlist := Lib.hid (l01List_any m m0 (by omega))
        go_wp2_with fail
        refine (hlist.out _).mono ?_
        rintro e w' ⟨v, rfl, ho, hb⟩
        go_wp2_with fail
        go_ret
        exact ⟨v, rfl, by rw [← h2.out]; exact ho, hb⟩

end Go.Proofs.Ytdpnkojchimmfaa
