/- Walks of IsModalAlgebra, of the program and of the reference. -/
import Derived.Test.YtjjnnlfcdncefaaFrame
import Derived.Test.YtjjnnlfcdncefaaOpenS
import Derived.Test.YtjjnnlfcdncefaaRelMath
import Derived.IntWalk
namespace Go.Proofs.Ytjjnnlfcdncefaa
open Go.RowKit
set_option linter.unusedSimpArgs false

/-- Whether the box of a meet is not the meet of the boxes. -/
def badB (xs : List Int) (i j : Nat) : Bool := xs.getD (i &&& j) 0 != bits BinOp.and IntKind.i64 (xs.getD i 0) (xs.getD j 0)
def badRow (xs : List Int) (i k : Nat) : Bool := (List.range k).any fun j => badB xs i j
def badAll (xs : List Int) (k : Nat) : Bool := (List.range k).any fun i => badRow xs i i
theorem badRow_succ (xs : List Int) (i k : Nat) : badRow xs i (k + 1) = (badRow xs i k || badB xs i k) := by simp [badRow, List.range_succ, List.any_append]
theorem badAll_succ (xs : List Int) (k : Nat) : badAll xs (k + 1) = (badAll xs k || badRow xs k k) := by simp [badAll, List.range_succ, List.any_append]
theorem badRow_mono {xs : List Int} {i j k : Nat} (hj : j < k) (h : badB xs i j = true) : badRow xs i k = true := by
  unfold badRow; rw [List.any_eq_true]; exact ⟨j, by simpa using hj, h⟩
theorem badAll_mono {xs : List Int} {i j k : Nat} (hi : i < k) (hj : j < i) (h : badB xs i j = true) : badAll xs k = true := by
  unfold badAll; rw [List.any_eq_true]; exact ⟨i, by simpa using hi, badRow_mono hj h⟩

def lenB (n : Int) (xs : List Int) : Bool := (xs.length : Int) == full n + 1
def algB (n : Int) (xs : List Int) : Bool := inR n 0 5 && (lenB n xs && (masksB n xs && (!(badAll xs xs.length) && (xs.getD (xs.length - 1) 0 == full n))))

theorem alg_cases (n : Int) (xs : List Int) : (inR n 0 5 = false ∧ algB n xs = false) ∨ (inR n 0 5 = true ∧ lenB n xs = false ∧ algB n xs = false) ∨ (inR n 0 5 = true ∧ lenB n xs = true ∧ masksB n xs = false ∧ algB n xs = false) ∨
    (inR n 0 5 = true ∧ lenB n xs = true ∧ masksB n xs = true ∧ algB n xs = (!(badAll xs xs.length) && (xs.getD (xs.length - 1) 0 == full n))) := by
  unfold algB
  cases inR n 0 5 <;> cases lenB n xs <;> cases masksB n xs <;> simp

/-- How many elements an algebra has. -/
theorem full_nat {n : Int} (h : inR n 0 5 = true) : ∃ F : Nat, full n = (F : Int) ∧ F ≤ 31 ∧ 0 ≤ n ∧ n ≤ 5 := by
  obtain ⟨h0, h1⟩ := inR_iff.1 h
  have hb := full_bounds n (by omega)
  have hp := pow_bounds n 5 (by omega)
  rw [show (2 : Int) ^ 5 = 32 by decide] at hp
  refine ⟨(full n).toNat, by omega, ?_, h0, h1⟩
  unfold full at hb ⊢
  omega

theorem alg_bounds {n : Int} {xs : List Int} {F : Nat} (hF : full n = (F : Int)) (h : masksB n xs = true) : ∀ (i : Nat) (x : Int), xs[i]? = some x → 0 ≤ x ∧ x ≤ (F : Int) := by
  intro i x hx
  unfold masksB at h
  rw [List.all_eq_true] at h
  have h1 := h x (List.mem_of_getElem? hx)
  unfold isMaskB at h1
  have h2 := inR_iff.1 ((Bool.and_eq_true _ _).mp h1).2
  rw [hF] at h2
  exact h2

theorem masks_elem {n : Int} (h : inR n 0 5 = true) (xs : List Int) : (xs.any fun x => !inR x 0 (full n)) = !masksB n xs := by
  obtain ⟨h0, h1⟩ := inR_iff.1 h
  have e : ∀ x, isMaskB n x = inR x 0 (full n) := fun x => by unfold isMaskB; rw [inR_yes h0 (by omega)]; rfl
  unfold masksB
  have h2 := not_any xs (fun x => inR x 0 (full n))
  have h3 : xs.all (isMaskB n) = xs.all fun x => inR x 0 (full n) := by congr 1; funext x; exact e x
  rw [h3, ← h2, Bool.not_not]

theorem algFull_any (v : Value) (n : Int) (xs : List Int) (w : World) (h : Pair w v n xs) (h0 : 0 ≤ n) (h1 : n ≤ 5) :
    Calls Try.prog 83 #[v] w fun e w' => e = .returned (.int .i64 (full n)) ∧ Below w.heap.size w w' := by
  obtain ⟨a, c, rfl, hi⟩ := h
  have hp := pow_bounds n 62 (by omega)
  rw [show (2 : Int) ^ 62 = 4611686018427387904 by decide] at hp
  obtain ⟨hp1, hp2⟩ := hp
  clear hi
  go_enter Try.func83, Try.ntmps83
  go_wp2
  go_ret
  exact ⟨rfl, (Below.refl _ _).alloc (Nat.le_refl _) _⟩

theorem isElement_any (v : Value) (n x : Int) (xs : List Int) (w : World) (h : Pair w v n xs) (h0 : 0 ≤ n) (h1 : n ≤ 5) :
    Calls Try.prog 86 #[v, .int .i64 x] w fun e w' => e = .returned (.bool (inR x 0 (full n))) ∧ Below w.heap.size w w' := by
  obtain ⟨a, c, rfl, hi⟩ := h
  have hba := (Below.refl w.heap.size w).alloc (Nat.le_refl _) (.cells #[.int .i64 n, .slice a xs.length c] 35)
  have hp := Lib.hid (show Pair _ _ n xs from ⟨a, c, rfl, hi.below hba (Nat.le_refl _)⟩)
  have hba := Lib.hid hba
  go_enter Try.func86, Try.ntmps86
  go_wp2_with fail
  refine (algFull_any _ n xs _ hp.out h0 h1).mono ?_
  rintro e w1 ⟨rfl, b1⟩
  go_wp2_with fail
  refine (inRange_any _ _ _ _).mono ?_
  rintro e w' ⟨rfl, rfl⟩
  go_wp2_with fail
  go_ret
  exact ⟨rfl, hba.out.trans (b1.mono (by simp))⟩

theorem alg1_any (n x : Int) (xs : List Int) (bx : Nat) (a : Option Addr) (c : Nat) (w : World) (hi : Ints w (.slice a xs.length c) xs) (hb0 : w.cell? ⟨bx, 0, none⟩ = some (.int .i64 n)) (hb1 : w.cell? ⟨bx, 1, none⟩ = some (.slice a xs.length c)) (h0 : 0 ≤ n) (h1 : n ≤ 5) :
    Calls Try.prog 85 #[.int .i64 x, .pointer (some ⟨bx, 0, none⟩)] w fun e w' => e = .returned (.bool (!inR x 0 (full n))) ∧ Below w.heap.size w w' := by
  have hp := Lib.hid (show Pair w (.agg #[.int .i64 n, .slice a xs.length c]) n xs from ⟨a, c, rfl, hi⟩)
  go_enter Try.func85, Try.ntmps85
  go_wp2_with fail
  refine (isElement_any _ n x xs _ hp.out h0 h1).mono ?_
  rintro e w1 ⟨rfl, b1⟩
  go_wp2_with fail
  go_ret
  exact ⟨rfl, b1⟩

/-- A world with the struct's box. -/
def Held (w : World) (n : Int) (a : Option Addr) (l c : Nat) (W : World) : Prop := Below w.heap.size w W ∧ W.cell? ⟨w.heap.size, 0, none⟩ = some (.int .i64 n) ∧ W.cell? ⟨w.heap.size, 1, none⟩ = some (.slice a l c)
theorem Held.step {w W W' : World} {n : Int} {a : Option Addr} {l c : Nat} (h : Held w n a l c W) (hb : Below W.heap.size W W') : Held w n a l c W' := ⟨keep_step hb h.1, keep_cell hb h.2.1, keep_cell hb h.2.2⟩

set_option maxRecDepth 100000 in
set_option maxHeartbeats 4000000 in
theorem isModalAlgebra_any (v : Value) (n : Int) (xs : List Int) (w : World) (h : Pair w v n xs) :
    Calls Try.prog 51 #[v] w fun e w' => e = .returned (.bool (algB n xs)) ∧ Below w.heap.size w w' := by
  obtain ⟨a, c, rfl, hi⟩ := h
  have hba := (Below.refl w.heap.size w).alloc (Nat.le_refl _) (.cells #[.int .i64 n, .slice a xs.length c] 35)
  have hx0 : (w.alloc (.cells #[.int .i64 n, .slice a xs.length c] 35)).cell? ⟨w.heap.size, 0, none⟩ = some (.int .i64 n) := by rw [World.cell?_alloc_at _ _ _ _ rfl]; rfl
  have hx1 : (w.alloc (.cells #[.int .i64 n, .slice a xs.length c] 35)).cell? ⟨w.heap.size, 1, none⟩ = some (.slice a xs.length c) := by rw [World.cell?_alloc_at _ _ _ _ rfl]; rfl
  have hiH := Lib.hid hi
  rcases alg_cases n xs with ⟨h1, h2⟩ | ⟨h1, h3, h2⟩ | ⟨h1, h3, h4, h2⟩ | ⟨h1, h3, h4, h2⟩
  · have hin := Lib.hid (fun w' => show Calls Try.prog 76 #[.int .i64 n, .int .i64 0, .int .i64 5] w' fun e w'' => e = .returned (.bool false) ∧ w' = w'' from by rw [← h1]; exact inRange_any _ _ _ _)
    have hf := Lib.hid h2
    clear h1 h2 hi hx0 hx1
    go_enter Try.func51, Try.ntmps51
    go_wp2_with fail
    go_quiet (first | (go_at_call 76; exact quiet_eq (hin.out _)))
    go_wp2_with fail
    go_ret
    exact ⟨ret_bool hf.out.symm, below_drewN hba _⟩
  all_goals
    have hin := Lib.hid (fun w' => show Calls Try.prog 76 #[.int .i64 n, .int .i64 0, .int .i64 5] w' fun e w'' => e = .returned (.bool true) ∧ w' = w'' from by rw [← h1]; exact inRange_any _ _ _ _)
    have hsz := Lib.hid (fun w' (hb : Below w.heap.size w w') => sizeI_any (.slice a xs.length c) xs w' (hiH.out.below hb (Nat.le_refl _)))
    obtain ⟨F, hF, hF31, n0, n5⟩ := full_nat h1
    have hfu := Lib.hid (fun w' (hb : Below w.heap.size w w') => show Calls Try.prog 83 #[.agg #[.int .i64 n, .slice a xs.length c]] w' fun e w'' => e = .returned (.int .i64 (F : Int)) ∧ Below w'.heap.size w' w'' from by rw [← hF]; exact algFull_any _ n xs w' ⟨a, c, rfl, hiH.out.below hb (Nat.le_refl _)⟩ n0 n5)
    have hpred := Lib.hid (fun w' (hh : Held w n a xs.length c w') => show Pred Try.prog 85 #[.pointer (some ⟨w.heap.size, 0, none⟩)] (Value.int .i64) xs (fun x => !inR x 0 (full n)) w' from fun W x _ hb _ => by
      have hh2 := hh.step hb
      exact alg1_any n x xs w.heap.size a c W (hiH.out.below hh2.1 (Nat.le_refl _)) hh2.2.1 hh2.2.2 n0 n5)
    have hany := Lib.hid (masks_elem h1 xs)
    have hcon := Lib.hid (fun w' (hh : Held w n a xs.length c w') => containsFuncI_any 85 _ (enters_of Try.func85 (by kernel_rfl) rfl) (.slice a xs.length c) xs _ w' (hiH.out.below hh.1 (Nat.le_refl _)) (hpred.out w' hh))
    have hw1 : IntKind.i64.wrap ((F : Int) + 1) = (F : Int) + 1 := IntWalk.i64_in _ (by omega)
    have hlb : lenB n xs = ((xs.length : Int) == (F : Int) + 1) := by unfold lenB; rw [hF]
    have hf := Lib.hid h2
    have hFH := Lib.hid hF
    rw [h3] at hlb
    clear h1 h2 hF hpred h3 hi
  · have hne : ((xs.length : Int) != (F : Int) + 1) = true := by rw [bne, ← hlb]; rfl
    go_enter Try.func51, Try.ntmps51
    go_wp2_with fail
    generalize w.alloc (.cells #[.int .i64 n, .slice a xs.length c] 35) = W0 at *
    clear hlb
    (first | (go_region_with (first | (go_at_call 76; refine (hin.out _).mono ?_; rintro e w' ⟨rfl, rfl⟩) | (go_at_call 79; refine (hsz.out _ (by (first | assumption | exact Below.drew (by assumption) | exact below_drewN (by assumption) _))).mono ?_; rintro e w' ⟨rfl, rfl⟩) | (go_at_call 83; refine (hfu.out _ (by (first | assumption | exact Below.drew (by assumption) | exact below_drewN (by assumption) _))).mono ?_; rintro e w' ⟨rfl, hb'⟩; have hB' := keep_step hb' (by (first | assumption | exact Below.drew (by assumption) | exact below_drewN (by assumption) _))))) | fail)
    all_goals
      go_wp2_with fail
      go_ret
      exact ⟨ret_bool hf.out.symm, by first | assumption | exact Below.drew (by assumption) | exact below_drewN (by assumption) _⟩
  all_goals
    have hne : ((xs.length : Int) != (F : Int) + 1) = false := by rw [bne, ← hlb]; rfl
    have hN : (xs.length : Int) = (F : Int) + 1 := by simpa using hlb.symm
    have hN2 : xs.length = F + 1 := by omega
  · have hmf : Hid ((xs.any fun x => !inR x 0 (full n)) = true) := by show _ = _; rw [hany.out, h4]; rfl
    clear h4 hlb hN hN2
    go_enter Try.func51, Try.ntmps51
    go_wp2_with fail
    generalize w.alloc (.cells #[.int .i64 n, .slice a xs.length c] 35) = W0 at *
    (first | (go_region_held3 (fun W => Below w.heap.size w W ∧ W.cell? ⟨w.heap.size, 0, none⟩ = some (.int .i64 n) ∧ W.cell? ⟨w.heap.size, 1, none⟩ = some (.slice a xs.length c)) (first | (refine ⟨?_, ?_, ?_⟩ <;> (first | assumption | (exact Below.drew (by assumption)))) | assumption | (obtain ⟨hs1, hs2, hs3⟩ := ‹Below _ _ _ ∧ _ ∧ _›; exact ⟨keep_step (by assumption) hs1, keep_cell (by assumption) hs2, keep_cell (by assumption) hs3⟩)) (first | (go_at_call 76; refine (hin.out _).mono ?_; rintro e w' ⟨rfl, rfl⟩) | (go_at_call 79; refine (hsz.out _ (And.left ‹Below w.heap.size w _ ∧ _ ∧ _›)).mono ?_; rintro e w' ⟨rfl, rfl⟩) | (go_at_call 83; refine (hfu.out _ (And.left ‹Below w.heap.size w _ ∧ _ ∧ _›)).mono ?_; rintro e w' ⟨rfl, hb'⟩) | (go_at_call 84; refine (hcon.out _ ‹Below w.heap.size w _ ∧ _ ∧ _›).mono ?_; rintro e w' ⟨rfl, hb'⟩; rw [hmf.out]))) | fail)
    all_goals
      go_wp2_with fail
      go_ret
      exact ⟨ret_bool hf.out.symm, by first | assumption | exact (‹Below w.heap.size w _ ∧ _ ∧ _›).1⟩
  · have hmf : Hid ((xs.any fun x => !inR x 0 (full n)) = false) := by show _ = _; rw [hany.out, h4]; rfl
    have hm : xs.length ≤ 9223372036854775807 := by have := hiH.out.cap; unfold maxLen at this; exact this
    obtain ⟨_, aa, cc, b, o, he0, hcc, hz0, hcell⟩ := hiH.out.opened
    obtain ⟨rfl, rfl⟩ : a = aa ∧ c = cc := by injection he0 with h1 _ h3; exact ⟨h1, h3⟩
    clear he0
    obtain rfl : a = some ⟨b, o, none⟩ := by
      rcases hz0 with hz0 | hz0
      · omega
      · exact hz0.2
    clear hz0
    have hbd := Lib.hid (alg_bounds hFH.out h4)
    have hgx := Lib.hid (fun (i : Nat) (x : Int) (hx : xs[i]? = some x) => show xs.getD i 0 = x by simp [List.getD, hx])
    have hmono := Lib.hid (fun i j (hi : i < xs.length) (hj : j < i) (h : badB xs i j = true) => badAll_mono hi hj h)
    have hF0 : F < xs.length := by omega
    have hN2H := Lib.hid hN2
    clear h4 hlb hN hN2
    go_enter Try.func51, Try.ntmps51
    go_wp2_with fail
    generalize w.alloc (.cells #[.int .i64 n, .slice (some ⟨b, o, none⟩) xs.length c] 35) = W0 at *
    (first | (go_region_held3 (fun W => Below w.heap.size w W ∧ W.cell? ⟨w.heap.size, 0, none⟩ = some (.int .i64 n) ∧ W.cell? ⟨w.heap.size, 1, none⟩ = some (.slice (some ⟨b, o, none⟩) xs.length c)) (first | (refine ⟨?_, ?_, ?_⟩ <;> (first | assumption | (exact Below.drew (by assumption)))) | assumption | (obtain ⟨hs1, hs2, hs3⟩ := ‹Below _ _ _ ∧ _ ∧ _›; exact ⟨keep_step (by assumption) hs1, keep_cell (by assumption) hs2, keep_cell (by assumption) hs3⟩)) (first | (go_at_call 76; refine (hin.out _).mono ?_; rintro e w' ⟨rfl, rfl⟩) | (go_at_call 79; refine (hsz.out _ (And.left ‹Below w.heap.size w _ ∧ _ ∧ _›)).mono ?_; rintro e w' ⟨rfl, rfl⟩) | (go_at_call 83; refine (hfu.out _ (And.left ‹Below w.heap.size w _ ∧ _ ∧ _›)).mono ?_; rintro e w' ⟨rfl, hb'⟩) | (go_at_call 84; refine (hcon.out _ ‹Below w.heap.size w _ ∧ _ ∧ _›).mono ?_; rintro e w' ⟨rfl, hb'⟩; rw [hmf.out]))) | fail)
    all_goals
      obtain ⟨hB, hx0, hx1⟩ := ‹Below w.heap.size w _ ∧ _ ∧ _›
      go_wp2_with fail
      go_loopw [27] (fun i wr => ∃ k : Nat, k ≤ xs.length ∧ i = .int .i64 k ∧ Hid (badAll xs k = false) ∧ Below w.heap.size w wr ∧ wr.cell? ⟨w.heap.size, 0, none⟩ = some (.int .i64 n) ∧ wr.cell? ⟨w.heap.size, 1, none⟩ = some (.slice (some ⟨b, o, none⟩) xs.length c)) (fun i _ => xs.length - (intOf i).toNat)
      case atStart => exact ⟨0, Nat.zero_le _, rfl, rfl, hB, hx0, hx1⟩
      case round =>
        clear hB hx0 hx1
        obtain ⟨k, hk, rfl, hba, hB, hx0, hx1⟩ := hrel
        by_cases hlt : k < xs.length
        · go_wp2_with fail
          go_loopw [31] (fun i wr => ∃ m : Nat, m ≤ k ∧ i = .int .i64 m ∧ Hid (badRow xs k m = false) ∧ Below w.heap.size w wr ∧ wr.cell? ⟨w.heap.size, 0, none⟩ = some (.int .i64 n) ∧ wr.cell? ⟨w.heap.size, 1, none⟩ = some (.slice (some ⟨b, o, none⟩) xs.length c)) (fun i _ => k - (intOf i).toNat)
          case atStart => exact ⟨0, Nat.zero_le _, rfl, rfl, hB, hx0, hx1⟩
          case round =>
            clear hB hx0 hx1
            obtain ⟨m, hmk, rfl, hbr, hB, hx0, hx1⟩ := hrel
            by_cases hlt2 : m < k
            · obtain ⟨Y, hYx, hcY⟩ := hcell.out m (by omega)
              obtain ⟨X, hXx, hcX⟩ := hcell.out k hlt
              have hqk : k &&& m ≤ k := Nat.and_le_left
              obtain ⟨Z, hZx, hcZ⟩ := hcell.out (k &&& m) (by omega)
              have lb := World.block_lt_of_cell? w _ hcX
              have hcX := (hB.cell (p := ⟨b, o + k, none⟩) lb).trans hcX
              have hcY := (hB.cell (p := ⟨b, o + m, none⟩) lb).trans hcY
              have hcZ := (hB.cell (p := ⟨b, o + (k &&& m), none⟩) lb).trans hcZ
              have hand : bits BinOp.and IntKind.i64 (k : Int) (m : Int) = ((k &&& m : Nat) : Int) := i64_and_nat k m (by omega) (by omega)
              have hq : badB xs k m = (Z != bits BinOp.and IntKind.i64 X Y) := by unfold badB; rw [hgx.out _ _ hXx, hgx.out _ _ hYx, hgx.out _ _ hZx]
              generalize hV : bits BinOp.and IntKind.i64 X Y = V at hq
              have hqn : (k &&& m : Nat) < xs.length := by omega
              have hqi : (((k &&& m : Nat) : Int)) < (xs.length : Int) := by omega
              have hki : (k : Int) < (xs.length : Int) := by omega
              have hmi : (m : Int) < (xs.length : Int) := by omega
              generalize (k &&& m) = q at *
              clear hXx hYx hZx

              cases hbb : badB xs k m
              · have hst := Lib.hid (show badRow xs k (m + 1) = false by rw [badRow_succ, hbr.out, hbb]; rfl)
                rw [hbb] at hq
                replace hq := hq.symm
                clear hbb
                go_wp2_with fail
                go_quiet (fail)
                go_wp2_with fail
                go_roundw
                case rel => exact ⟨m + 1, by omega, by go_num, hst.out, below_drewN hB _, hx0, hx1⟩
                case measure => simp [intOf]; omega
              · have hfin := Lib.hid (show algB n xs = false by rw [hf.out, hmono.out k m hlt hlt2 hbb]; rfl)
                rw [hbb] at hq
                replace hq := hq.symm
                clear hbb
                go_wp2_with fail
                go_quiet (fail)
                go_wp2_with fail
                go_ret
                exact ⟨ret_bool hfin.out.symm, below_drewN hB _⟩
            · obtain rfl : m = k := by omega
              have hst := Lib.hid (show badAll xs (m + 1) = false by rw [badAll_succ, hba.out, hbr.out]; rfl)
              go_wp2_with fail
              go_roundw
              case rel => exact ⟨m + 1, by omega, by go_num, hst.out, hB, hx0, hx1⟩
              case measure => simp [intOf]; omega
        · obtain rfl : k = xs.length := by omega
          obtain ⟨E, hEx, hcE⟩ := hcell.out F hF0
          have hcE := (hB.cell (p := ⟨b, o + F, none⟩) (World.block_lt_of_cell? w _ hcE)).trans hcE
          have hFi : (F : Int) < (xs.length : Int) := by omega
          have hfin := Lib.hid (show algB n xs = (E == (F : Int)) by rw [hf.out, hba.out, show xs.length - 1 = F by have := hN2H.out; omega, hgx.out _ _ hEx, hFH.out]; rfl)
          clear hEx hba
          cases hEF : (E == (F : Int))
          all_goals
            have hEFh := Lib.hid hEF
            go_wp2_with fail
            (first | (go_region_held3 (fun W => Below w.heap.size w W ∧ W.cell? ⟨w.heap.size, 0, none⟩ = some (.int .i64 n) ∧ W.cell? ⟨w.heap.size, 1, none⟩ = some (.slice (some ⟨b, o, none⟩) xs.length c) ∧ W.cell? ⟨b, o + F, none⟩ = some (.int .i64 E)) (first | (refine ⟨?_, ?_, ?_, ?_⟩ <;> (first | assumption | (exact Below.drew (by assumption)))) | assumption | (obtain ⟨hs1, hs2, hs3, hs4⟩ := ‹Below _ _ _ ∧ _ ∧ _ ∧ _›; exact ⟨keep_step (by assumption) hs1, keep_cell (by assumption) hs2, keep_cell (by assumption) hs3, keep_cell (by assumption) hs4⟩)) (first | (go_at_call 83; refine (hfu.out _ (And.left ‹Below w.heap.size w _ ∧ _ ∧ _ ∧ _›)).mono ?_; rintro e w' ⟨rfl, hb'⟩))) | fail)
            all_goals
              go_wp2_with fail
              go_ret
              exact ⟨ret_bool (by rw [hfin.out, hEFh.out]), by first | assumption | exact (‹Below w.heap.size w _ ∧ _ ∧ _ ∧ _›).1⟩

theorem implIsModalAlgebra_any (v : Value) (n : Int) (xs : List Int) (w : World) (h : Pair w v n xs) :
    Calls Try.prog 20 #[v] w fun e w' => e = .returned (.bool (algB n xs)) ∧ Below w.heap.size w w' := by
  obtain ⟨a, c, rfl, hi⟩ := h
  have hba := (Below.refl w.heap.size w).alloc (Nat.le_refl _) (.cells #[.int .i64 n, .slice a xs.length c] 35)
  have hp := Lib.hid (show Pair (w.alloc (.cells #[.int .i64 n, .slice a xs.length c] 35)) (.agg #[.int .i64 n, .slice a xs.length c]) n xs from ⟨a, c, rfl, hi.below hba (Nat.le_refl _)⟩)
  have hba := Lib.hid hba
  go_enter Try.func20, Try.ntmps20
  go_wp2_with fail
  refine (isModalAlgebra_any _ n xs _ hp.out).mono ?_
  rintro e w1 ⟨rfl, b1⟩
  go_wp2_with fail
  go_ret
  exact ⟨rfl, hba.out.trans (b1.mono (by simp))⟩

set_option maxRecDepth 100000 in
set_option maxHeartbeats 4000000 in
theorem l15Is_any (v : Value) (n : Int) (xs : List Int) (w : World) (h : Pair w v n xs) :
    Calls Try.prog 50 #[v] w fun e w' => e = .returned (.bool (algB n xs)) ∧ Below w.heap.size w w' := by
  obtain ⟨a, c, rfl, hi⟩ := h
  have hba := (Below.refl w.heap.size w).alloc (Nat.le_refl _) (.cells #[.int .i64 n, .slice a xs.length c] 35)
  have hx0 : (w.alloc (.cells #[.int .i64 n, .slice a xs.length c] 35)).cell? ⟨w.heap.size, 0, none⟩ = some (.int .i64 n) := by rw [World.cell?_alloc_at _ _ _ _ rfl]; rfl
  have hx1 : (w.alloc (.cells #[.int .i64 n, .slice a xs.length c] 35)).cell? ⟨w.heap.size, 1, none⟩ = some (.slice a xs.length c) := by rw [World.cell?_alloc_at _ _ _ _ rfl]; rfl
  have hiH := Lib.hid hi
  have hcap : xs.length ≤ 9223372036854775807 := by have := hi.cap; unfold maxLen at this; exact this
  rcases alg_cases n xs with ⟨h1, h2⟩ | ⟨h1, h3, h2⟩ | ⟨h1, h3, h4, h2⟩ | ⟨h1, h3, h4, h2⟩
  · have hin := Lib.hid (fun w' => show Calls Try.prog 77 #[.int .i64 n, .int .i64 0, .int .i64 5] w' fun e w'' => e = .returned (.bool false) ∧ w' = w'' from by rw [← h1]; exact l01In_any _ _ _ _)
    have hf := Lib.hid h2
    clear h1 h2 hi hx0 hx1
    go_enter Try.func50, Try.ntmps50
    go_wp2_with fail
    go_quiet (first | (go_at_call 77; exact quiet_eq (hin.out _)))
    go_wp2_with fail
    go_ret
    exact ⟨ret_bool hf.out.symm, below_drewN hba _⟩
  all_goals
    have hin := Lib.hid (fun w' => show Calls Try.prog 77 #[.int .i64 n, .int .i64 0, .int .i64 5] w' fun e w'' => e = .returned (.bool true) ∧ w' = w'' from by rw [← h1]; exact l01In_any _ _ _ _)
    obtain ⟨F, hF, hF31, n0, n5⟩ := full_nat h1
    have hone := Lib.hid (fun w' => show Calls Try.prog 81 #[.int .i64 n] w' fun e w'' => e = .returned (.int .i64 ((F : Int) + 1)) ∧ w' = w'' from by
      have h5 := l01One_any n n0 (by omega) w'
      have h6 : (2 : Int) ^ n.toNat = (F : Int) + 1 := by have := hF; unfold full at this; omega
      rw [h6] at h5; exact h5)
    have hfull := Lib.hid (fun w' => show Calls Try.prog 82 #[.int .i64 n] w' fun e w'' => e = .returned (.int .i64 (F : Int)) ∧ w' = w'' from by rw [← hF]; exact l01Full_any n n0 (by omega) w')
    have hmas := Lib.hid (fun w' (hb : Below w.heap.size w w') => l01Masks_any n n0 (by omega) (.slice a xs.length c) xs w' (hiH.out.below hb (Nat.le_refl _)))
    have hlb : lenB n xs = ((xs.length : Int) == (F : Int) + 1) := by unfold lenB; rw [hF]
    have hf := Lib.hid h2
    have hFH := Lib.hid hF
    rw [h3] at hlb
    clear h1 h2 hF h3 hi
  · have hne : ((xs.length : Int) != (F : Int) + 1) = true := by rw [bne, ← hlb]; rfl
    clear hlb
    go_enter Try.func50, Try.ntmps50
    go_wp2_with fail
    go_quiet (first | (go_at_call 77; exact quiet_eq (hin.out _)) | (go_at_call 81; exact quiet_eq (hone.out _)))
    go_wp2_with fail
    go_ret
    exact ⟨ret_bool hf.out.symm, below_drewN hba _⟩
  all_goals
    have hne : ((xs.length : Int) != (F : Int) + 1) = false := by rw [bne, ← hlb]; rfl
    have hN : (xs.length : Int) = (F : Int) + 1 := by simpa using hlb.symm
    have hN2 : xs.length = F + 1 := by omega
    have hmas := Lib.hid (fun w' hb => by have h7 := hmas.out w' hb; rw [h4] at h7; exact h7)
  · clear h4 hlb hN hN2
    go_enter Try.func50, Try.ntmps50
    go_wp2_with fail
    generalize w.alloc (.cells #[.int .i64 n, .slice a xs.length c] 35) = W0 at *
    (first | (go_region_held3 (fun W => Below w.heap.size w W ∧ W.cell? ⟨w.heap.size, 0, none⟩ = some (.int .i64 n) ∧ W.cell? ⟨w.heap.size, 1, none⟩ = some (.slice a xs.length c)) (first | (refine ⟨?_, ?_, ?_⟩ <;> (first | assumption | (exact Below.drew (by assumption)))) | assumption | (obtain ⟨hs1, hs2, hs3⟩ := ‹Below _ _ _ ∧ _ ∧ _›; exact ⟨keep_step (by assumption) hs1, keep_cell (by assumption) hs2, keep_cell (by assumption) hs3⟩)) (first | (go_at_call 77; refine (hin.out _).mono ?_; rintro e w' ⟨rfl, rfl⟩) | (go_at_call 81; refine (hone.out _).mono ?_; rintro e w' ⟨rfl, rfl⟩) | (go_at_call 78; refine (hmas.out _ (And.left ‹Below w.heap.size w _ ∧ _ ∧ _›)).mono ?_; rintro e w' ⟨rfl, hb'⟩))) | fail)
    all_goals
      go_wp2_with fail
      go_ret
      exact ⟨ret_bool hf.out.symm, by first | assumption | exact (‹Below w.heap.size w _ ∧ _ ∧ _›).1⟩
  · have hm : xs.length ≤ 9223372036854775807 := hcap
    obtain ⟨_, aa, cc, b, o, he0, hcc, hz0, hcell⟩ := hiH.out.opened
    obtain ⟨rfl, rfl⟩ : a = aa ∧ c = cc := by injection he0 with h1 _ h3; exact ⟨h1, h3⟩
    clear he0
    obtain rfl : a = some ⟨b, o, none⟩ := by
      rcases hz0 with hz0 | hz0
      · omega
      · exact hz0.2
    clear hz0
    have hbd := Lib.hid (alg_bounds hFH.out h4)
    have hgx := Lib.hid (fun (i : Nat) (x : Int) (hx : xs[i]? = some x) => show xs.getD i 0 = x by simp [List.getD, hx])
    have hmono := Lib.hid (fun i j (hi : i < xs.length) (hj : j < i) (h : badB xs i j = true) => badAll_mono hi hj h)
    have hF0 : F < xs.length := by omega
    obtain ⟨E, hEx, hcE⟩ := hcell.out F hF0
    have hFi : (F : Int) < (xs.length : Int) := by omega
    have hgood := Lib.hid (fun (hb : badAll xs xs.length = false) => show algB n xs = (E == (F : Int)) by rw [hf.out, hb, show xs.length - 1 = F by omega, hgx.out _ _ hEx, hFH.out]; rfl)
    have hbadE := Lib.hid (fun (hb : (E == (F : Int)) = false) => show algB n xs = false by rw [hf.out, show xs.length - 1 = F by omega, hgx.out _ _ hEx, hFH.out, hb]; simp)
    have hN2H := Lib.hid hN2
    clear h4 hlb hN hEx hN2
    cases hEF : (E == (F : Int))
    all_goals
      have hne2 : (E != (F : Int)) = !(E == (F : Int)) := rfl
      rw [hEF] at hne2
      have hEFh := Lib.hid hEF
      go_enter Try.func50, Try.ntmps50
      go_wp2_with fail
      generalize w.alloc (.cells #[.int .i64 n, .slice (some ⟨b, o, none⟩) xs.length c] 35) = W0 at *
      (first | (go_region_held3 (fun W => Below w.heap.size w W ∧ W.cell? ⟨w.heap.size, 0, none⟩ = some (.int .i64 n) ∧ W.cell? ⟨w.heap.size, 1, none⟩ = some (.slice (some ⟨b, o, none⟩) xs.length c)) (first | (refine ⟨?_, ?_, ?_⟩ <;> (first | assumption | (exact Below.drew (by assumption)))) | assumption | (obtain ⟨hs1, hs2, hs3⟩ := ‹Below _ _ _ ∧ _ ∧ _›; exact ⟨keep_step (by assumption) hs1, keep_cell (by assumption) hs2, keep_cell (by assumption) hs3⟩)) (first | (go_at_call 77; refine (hin.out _).mono ?_; rintro e w' ⟨rfl, rfl⟩) | (go_at_call 81; refine (hone.out _).mono ?_; rintro e w' ⟨rfl, rfl⟩) | (go_at_call 78; refine (hmas.out _ (And.left ‹Below w.heap.size w _ ∧ _ ∧ _›)).mono ?_; rintro e w' ⟨rfl, hb'⟩))) | fail)
      all_goals
        obtain ⟨hB, hx0, hx1⟩ := ‹Below w.heap.size w _ ∧ _ ∧ _›
        have hcE := (hB.cell (p := ⟨b, o + F, none⟩) (World.block_lt_of_cell? w _ hcE)).trans hcE
        go_wp2_with fail
        refine (hfull.out _).mono ?_
        rintro e w' ⟨rfl, rfl⟩
        go_wp2_with fail
    · have hfin := Lib.hid (hbadE.out hEFh.out)
      go_ret
      exact ⟨ret_bool hfin.out.symm, hB⟩
    · go_loopw [4] (fun i wr => ∃ k : Nat, k ≤ xs.length ∧ i = .int .i64 k ∧ Hid (badAll xs k = false) ∧ Below w.heap.size w wr ∧ wr.cell? ⟨w.heap.size, 0, none⟩ = some (.int .i64 n) ∧ wr.cell? ⟨w.heap.size, 1, none⟩ = some (.slice (some ⟨b, o, none⟩) xs.length c)) (fun i _ => xs.length - (intOf i).toNat)
      case atStart => exact ⟨0, Nat.zero_le _, rfl, rfl, hB, hx0, hx1⟩
      case round =>
        clear hB hx0 hx1
        obtain ⟨k, hk, rfl, hba, hB, hx0, hx1⟩ := hrel
        by_cases hlt : k < xs.length
        · have hle : (k : Int) ≤ (F : Int) := by have := hN2H.out; omega
          go_wp2_with fail
          go_loopw [5] (fun i wr => ∃ m : Nat, m ≤ k ∧ i = .int .i64 m ∧ Hid (badRow xs k m = false) ∧ Below w.heap.size w wr ∧ wr.cell? ⟨w.heap.size, 0, none⟩ = some (.int .i64 n) ∧ wr.cell? ⟨w.heap.size, 1, none⟩ = some (.slice (some ⟨b, o, none⟩) xs.length c)) (fun i _ => k - (intOf i).toNat)
          case atStart => exact ⟨0, Nat.zero_le _, rfl, rfl, hB, hx0, hx1⟩
          case round =>
            clear hB hx0 hx1
            obtain ⟨m, hmk, rfl, hbr, hB, hx0, hx1⟩ := hrel
            by_cases hlt2 : m < k
            · obtain ⟨Y, hYx, hcY⟩ := hcell.out m (by omega)
              obtain ⟨X, hXx, hcX⟩ := hcell.out k hlt
              have hqk : k &&& m ≤ k := Nat.and_le_left
              obtain ⟨Z, hZx, hcZ⟩ := hcell.out (k &&& m) (by omega)
              have lb := World.block_lt_of_cell? w _ hcX
              have hcX := (hB.cell (p := ⟨b, o + k, none⟩) lb).trans hcX
              have hcY := (hB.cell (p := ⟨b, o + m, none⟩) lb).trans hcY
              have hcZ := (hB.cell (p := ⟨b, o + (k &&& m), none⟩) lb).trans hcZ
              have hand : bits BinOp.and IntKind.i64 (k : Int) (m : Int) = ((k &&& m : Nat) : Int) := i64_and_nat k m (by omega) (by omega)
              have hq : badB xs k m = (Z != bits BinOp.and IntKind.i64 X Y) := by unfold badB; rw [hgx.out _ _ hXx, hgx.out _ _ hYx, hgx.out _ _ hZx]
              generalize hV : bits BinOp.and IntKind.i64 X Y = V at hq
              have hqn : (k &&& m : Nat) < xs.length := by omega
              have hqi : (((k &&& m : Nat) : Int)) < (xs.length : Int) := by omega
              have hki : (k : Int) < (xs.length : Int) := by omega
              have hmi : (m : Int) < (xs.length : Int) := by omega
              generalize (k &&& m) = q at *
              clear hXx hYx hZx

              cases hbb : badB xs k m
              · have hst := Lib.hid (show badRow xs k (m + 1) = false by rw [badRow_succ, hbr.out, hbb]; rfl)
                rw [hbb] at hq
                replace hq := hq.symm
                clear hbb
                go_wp2_with fail
                go_quiet (fail)
                go_wp2_with fail
                go_roundw
                case rel => exact ⟨m + 1, by omega, by go_num, hst.out, below_drewN hB _, hx0, hx1⟩
                case measure => simp [intOf]; omega
              · have hfin := Lib.hid (show algB n xs = false by rw [hf.out, hmono.out k m hlt hlt2 hbb]; rfl)
                rw [hbb] at hq
                replace hq := hq.symm
                clear hbb
                go_wp2_with fail
                go_quiet (fail)
                go_wp2_with fail
                go_ret
                exact ⟨ret_bool hfin.out.symm, below_drewN hB _⟩
            · obtain rfl : m = k := by omega
              have hst := Lib.hid (show badAll xs (m + 1) = false by rw [badAll_succ, hba.out, hbr.out]; rfl)
              go_wp2_with fail
              go_roundw
              case rel => exact ⟨m + 1, by omega, by go_num, hst.out, hB, hx0, hx1⟩
              case measure => simp [intOf]; omega
        · obtain rfl : k = xs.length := by omega
          have hgt : ¬ ((xs.length : Int) ≤ (F : Int)) := by omega
          have hfin := Lib.hid ((hgood.out hba.out).trans hEFh.out)
          go_wp2_with fail
          go_ret
          exact ⟨ret_bool hfin.out.symm, hB⟩

theorem specIsModalAlgebra_any (v : Value) (n : Int) (xs : List Int) (w : World) (h : Pair w v n xs) :
    Calls Try.prog 18 #[v] w fun e w' => e = .returned (.bool (algB n xs)) ∧ Below w.heap.size w w' := by
  obtain ⟨a, c, rfl, hi⟩ := h
  have hba := (Below.refl w.heap.size w).alloc (Nat.le_refl _) (.cells #[.int .i64 n, .slice a xs.length c] 35)
  have hp := Lib.hid (show Pair (w.alloc (.cells #[.int .i64 n, .slice a xs.length c] 35)) (.agg #[.int .i64 n, .slice a xs.length c]) n xs from ⟨a, c, rfl, hi.below hba (Nat.le_refl _)⟩)
  have hba := Lib.hid hba
  go_enter Try.func18, Try.ntmps18
  go_wp2_with fail
  refine (l15Is_any _ n xs _ hp.out).mono ?_
  rintro e w1 ⟨rfl, b1⟩
  go_wp2_with fail
  go_ret
  exact ⟨rfl, hba.out.trans (b1.mono (by simp))⟩
end Go.Proofs.Ytjjnnlfcdncefaa
