/- Walks of CountModels, of the program and of the reference. -/
import Derived.Test.YtngaadpmmlabmaaDependMath
import Derived.Test.YtngaadpmmlabmaaSubMath
import Derived.Test.YtngaadpmmlabmaaClassThree
namespace Go.Proofs.Ytngaadpmmlabmaa
open Go.RowKit Go.Deep

/-- Whether all variables lie below n. -/
def lowB (ns : List Nd) (n : Int) : Bool := decide (varMask ns < 2 ^ n.toNat)

theorem orBits_mem (xs : List Int) (i : Nat) : (orBits xs).testBit i = xs.any fun x => decide (x.toNat = i) := by
  unfold orBits
  have : ∀ (a : Nat), (xs.foldl (fun acc x => acc ||| 2 ^ x.toNat) a).testBit i = (a.testBit i || xs.any fun x => decide (x.toNat = i)) := by
    induction xs with
    | nil => intro a; simp
    | cons x xs ih =>
      intro a
      simp only [List.foldl_cons, List.any_cons]
      rw [ih, Nat.testBit_or]
      by_cases h : x.toNat = i
      · subst h; rw [Nat.testBit_two_pow_self]; simp
      · rw [Nat.testBit_two_pow_of_ne h]; simp [h]
  rw [this]; simp

theorem low_vars {ns : List Nd} {n : Int} (h : lowB ns n = true) : ∀ m ∈ ns, m.1 = 0 → m.2.toNat < n.toNat := by
  intro m hm hm0
  have h1 : varMask ns < 2 ^ n.toNat := by simpa [lowB] using h
  have e : ((2 : Int) ^ n.toNat) = ((2 ^ n.toNat : Nat) : Int) := by simp
  have h2 : orBits (varL ns) < 2 ^ n.toNat := by unfold varMask at h1; omega
  rcases Nat.lt_or_ge m.2.toNat n.toNat with h3 | h3
  · exact h3
  · have h4 := Nat.testBit_lt_two_pow (Nat.lt_of_lt_of_le h2 (Nat.pow_le_pow_right (by omega) h3))
    rw [orBits_mem] at h4
    have h5 : (varL ns).any (fun x => decide (x.toNat = m.2.toNat)) = true := by
      rw [List.any_eq_true]
      exact ⟨m.2, by unfold varL; exact List.mem_map.2 ⟨m, List.mem_filter.2 ⟨hm, by simpa using hm0⟩, rfl⟩, by simp⟩
    rw [h5] at h4; cases h4

/-- The last member of a mask. -/
theorem last_low (M : Nat) (hM : M < 2 ^ 63) (n : Nat) (hn : n ≤ 63) : (∃ i, (membersL M)[(membersL M).length - 1]? = some i ∧ (n : Int) ≤ i) ↔ ¬ M < 2 ^ n := by
  have hlen : (membersL M).length = ones 63 M := bitsUpto_ones M 63
  constructor
  · rintro ⟨i, h1, h2⟩ h3
    obtain ⟨k, h4, h5⟩ := (membersL_mem M hM i).1 (List.mem_of_getElem? h1)
    have := Nat.testBit_lt_two_pow (i := k) (Nat.lt_of_lt_of_le h3 (Nat.pow_le_pow_right (by omega) (by omega)))
    rw [this] at h5; cases h5
  · intro h
    obtain ⟨k, hk1, hk2⟩ : ∃ k, n ≤ k ∧ M.testBit k = true := by
      apply Classical.byContradiction
      intro hno
      apply h
      apply Nat.lt_pow_two_of_testBit
      intro i hi
      cases hb : M.testBit i
      · rfl
      · exact (hno ⟨i, hi, hb⟩).elim
    have hmem := (membersL_mem M hM (k : Int)).2 ⟨k, rfl, hk2⟩
    have hpos : 0 < (membersL M).length := List.length_pos_of_mem hmem
    have hget : (membersL M)[(membersL M).length - 1]? = some ((membersL M)[(membersL M).length - 1]'(by omega)) := by simp
    refine ⟨_, hget, ?_⟩
    obtain ⟨j, hj⟩ := List.getElem?_of_mem hmem
    have hjl : j < (membersL M).length := (List.getElem?_eq_some_iff.1 hj).1
    obtain ⟨k1, e1, _, b1, o1⟩ := mem_place M 63 j _ hj
    obtain ⟨k2, e2, _, b2, o2⟩ := mem_place M 63 _ _ hget
    rw [e2]
    rcases Nat.lt_or_ge k2 k1 with h3 | h3
    · exfalso
      have h6 := ones_split (k2 + 1) (k1 - (k2 + 1)) M
      rw [show k2 + 1 + (k1 - (k2 + 1)) = k1 by omega, ones_snoc] at h6
      rw [Nat.testBit_eq_decide_div_mod_eq] at b2
      have b3 := of_decide_eq_true b2
      omega
    · omega

def countCode (ns : List Nd) (n : Int) : Int := if codeP [ns] = 0 then if inR n 0 6 && lowB ns n then 0 else 2 else codeP [ns]
def countMR (ns : List Nd) (n : Int) : Int := if countCode ns n = 0 then (cnt (valT (treeOf ns)) (2 ^ n.toNat) : Nat) else 0

theorem countCode_cases (ns : List Nd) (n : Int) : (codeP [ns] ≠ 0 ∧ countCode ns n = codeP [ns]) ∨ (codeP [ns] = 0 ∧ inR n 0 6 = false ∧ countCode ns n = 2) ∨ (codeP [ns] = 0 ∧ inR n 0 6 = true ∧ lowB ns n = false ∧ countCode ns n = 2) ∨ (codeP [ns] = 0 ∧ inR n 0 6 = true ∧ lowB ns n = true ∧ countCode ns n = 0) := by
  unfold countCode
  by_cases h : codeP [ns] = 0
  · rw [if_pos h]
    cases h1 : inR n 0 6
    · exact .inr (.inl ⟨h, rfl, rfl⟩)
    · cases h2 : lowB ns n
      · exact .inr (.inr (.inl ⟨h, rfl, rfl, rfl⟩))
      · exact .inr (.inr (.inr ⟨h, rfl, rfl, rfl⟩))
  · exact .inl ⟨h, if_neg h⟩

theorem pow6 {n : Int} (h : inR n 0 6 = true) : 0 ≤ n ∧ n ≤ 6 ∧ 1 ≤ (2 : Int) ^ n.toNat ∧ (2 : Int) ^ n.toNat ≤ 64 ∧ ((2 : Int) ^ n.toNat) = ((2 ^ n.toNat : Nat) : Int) := by
  obtain ⟨h0, h1⟩ := inR_iff.1 h
  have := pow_bounds n 6 (by omega)
  rw [show (2 : Int) ^ 6 = 64 by decide] at this
  exact ⟨h0, h1, this.1, this.2, by simp⟩

theorem count_shift {ns : List Nd} {n : Int} (h : inR n 0 6 = true) (hl : lowB ns n = true) (hf : flat (treeOf ns) = ns) : popInt (rowsT (treeOf ns)) / 2 ^ (6 - n).toNat = (cnt (valT (treeOf ns)) (2 ^ n.toNat) : Nat) := by
  obtain ⟨h0, h1, _⟩ := pow6 h
  have hlow := low_vars hl
  rw [← hf] at hlow
  rw [pop_rows, count_low (treeOf ns) n.toNat (by omega) hlow, show (6 - n).toNat = 6 - n.toNat by omega]
  have e : ((2 : Int) ^ (6 - n.toNat)) = ((2 ^ (6 - n.toNat) : Nat) : Int) := by simp
  rw [e]
  have hp : 0 < 2 ^ (6 - n.toNat) := Nat.pow_pos (by omega)
  generalize 2 ^ (6 - n.toNat) = B at *
  generalize cnt (valT (treeOf ns)) (2 ^ n.toNat) = C at *
  have : ((B * C : Nat) : Int) / (B : Int) = ((B * C / B : Nat) : Int) := by simp
  rw [this, Nat.mul_div_cancel_left _ hp]

theorem rowsCount_any (m : Int) (h0 : 0 ≤ m) (h1 : m < 18446744073709551616) (w : World) :
    Calls Try.prog 59 #[.int .u64 m] w fun e w' => e = .returned (.int .i64 (popInt m)) ∧ w = w' := by
  have hp := popInt_bounds m
  have hc := Lib.hid (OnesCount64_any m h0 h1 w)
  clear h1
  go_enter Try.func59, Try.ntmps59
  go_wp2_with fail
  refine hc.out.mono ?_
  rintro e w' ⟨rfl, rfl⟩
  go_wp2_with fail
  go_ret
  exact ⟨rfl, rfl⟩

theorem lowB_int (ns : List Nd) (n : Int) : decide (2 ^ n.toNat ≤ varMask ns) = !lowB ns n := by
  unfold lowB
  by_cases h : varMask ns < 2 ^ n.toNat
  · simp [h]
  · simp [h]; omega

set_option maxRecDepth 100000 in
set_option maxHeartbeats 1600000 in
theorem implCountModels_any (v : Value) (ns : List Nd) (n : Int) (w : World) (h : Nodes w v ns) :
    Calls Try.prog 33 #[v, .int .i64 n] w fun e w' => e = .returned (.tuple #[.int .i64 (countMR ns n), .int .i64 (countCode ns n)]) ∧ Below w.heap.size w w' := by
  obtain ⟨a, c, rfl⟩ := h.shape
  have hv := Lib.hid h
  have hcode := Lib.hid (fun t => plainCode_one w a _ c ns t h)
  clear h
  generalize hln : ns.length = ln at *
  have hln := Lib.hid hln
  rcases countCode_cases ns n with ⟨h1, h2⟩ | ⟨h1, h3, h2⟩ | ⟨h1, h3, h4, h2⟩ | ⟨h1, h3, h4, h2⟩
  · have hr := Lib.hid (show countMR ns n = 0 by unfold countMR; rw [if_neg (by omega)])
    have hc2 := Lib.hid h2
    have hne := codeP_ne h1
    clear h1 h2
    go_enter Try.func33, Try.ntmps33
    go_wp2_with fail
    refine (hcode.out _).mono ?_
    rintro e w1 ⟨rfl, b1⟩
    go_wp2_with fail
    go_ret2
    exact ⟨by rw [hr.out, hc2.out]; rfl, b1⟩
  · have hr := Lib.hid (show countMR ns n = 0 by unfold countMR; rw [if_neg (by omega)])
    have hc2 := Lib.hid h2
    have hc := Lib.hid h1
    have hin := Lib.hid (fun w' => show Calls Try.prog 57 #[.int .i64 n, .int .i64 0, .int .i64 6] w' fun e w'' => e = .returned (.bool false) ∧ w' = w'' from by rw [← h3]; exact inRange_any _ _ _ _)
    clear h1 h2 h3
    go_enter Try.func33, Try.ntmps33
    go_wp2_with fail
    refine (hcode.out _).mono ?_
    rintro e w1 ⟨rfl, b1⟩
    rw [hc.out]
    go_wp2_with fail
    go_quiet (first | (go_at_call 57; exact quiet_eq (hin.out _)))
    go_wp2_with fail
    go_ret2
    exact ⟨by rw [hr.out, hc2.out]; rfl, below_drewN b1 _⟩
  all_goals
    obtain ⟨hf, hp⟩ := codeP_one h1
    obtain ⟨k1, k2, k3, k4⟩ := plain_tree hf hp
    have hc2 := Lib.hid h2
    have hc := Lib.hid h1
    have hin := Lib.hid (fun w' => show Calls Try.prog 57 #[.int .i64 n, .int .i64 0, .int .i64 6] w' fun e w'' => e = .returned (.bool true) ∧ w' = w'' from by rw [← h3]; exact inRange_any _ _ _ _)
    have hvm := Lib.hid (fun w1 (hb : Below w.heap.size w w1) => variableMask_any _ ns w1 (hv.out.below hb (Nat.le_refl _)) (form_all hf))
    have hmod := Lib.hid (fun w1 (hb : Below w.heap.size w w1) => modelsOf_any (treeOf ns) _ w1 k1 k3 (by rw [k2]; exact hv.out.below hb (Nat.le_refl _)) (by rw [k2]; omega))
    obtain ⟨n0, n6, _, _, _⟩ := pow6 h3
    have hdec := lowB_int ns n
    rw [h4] at hdec
    have hn7 : n = 0 ∨ n = 1 ∨ n = 2 ∨ n = 3 ∨ n = 4 ∨ n = 5 ∨ n = 6 := by omega
    have hpb := popInt_bounds (rowsT (treeOf ns))
    obtain ⟨q0, q1⟩ := rowsT_bounds (treeOf ns)
    have hcnt := Lib.hid (rowsCount_any (rowsT (treeOf ns)) q0 q1)
    obtain ⟨pb0, pb1⟩ := hpb
    clear q1
  · have hr := Lib.hid (show countMR ns n = 0 by unfold countMR; rw [if_neg (by omega)])
    have hlow : 2 ^ n.toNat ≤ varMask ns := of_decide_eq_true hdec
    clear h1 h2 h3 h4 hf hp k1 k2 k3 k4 q0 hmod hcnt pb0 pb1 hdec n0 n6
    generalize varMask ns = vm at *
    rcases hn7 with rfl | rfl | rfl | rfl | rfl | rfl | rfl
    all_goals
     simp at hlow
     have hw1 : IntKind.i64.wrap 1 = 1 := by decide
     have hw2 : IntKind.i64.wrap 2 = 2 := by decide
     have hw3 : IntKind.i64.wrap 4 = 4 := by decide
     have hw4 : IntKind.i64.wrap 8 = 8 := by decide
     have hw5 : IntKind.i64.wrap 16 = 16 := by decide
     have hw6 : IntKind.i64.wrap 32 = 32 := by decide
     have hw7 : IntKind.i64.wrap 64 = 64 := by decide
     go_enter Try.func33, Try.ntmps33
     go_wp2_with fail
     refine (hcode.out _).mono ?_
     rintro e w1 ⟨rfl, b1⟩
     rw [hc.out]
     go_wp2_with fail
     go_region_held3 (fun W => Below w.heap.size w W) (first | assumption | (exact Below.drew (by assumption)) | (exact keep_step (by assumption) (by assumption))) (first | (go_at_call 57; refine (hin.out _).mono ?_; rintro e w' ⟨rfl, rfl⟩) | (go_at_call 58; refine (hvm.out _ (by assumption)).mono ?_; rintro e w' ⟨rfl, hb'⟩))
     all_goals
       go_wp2_with fail
       go_ret2
       exact ⟨by rw [hr.out, hc2.out]; rfl, by assumption⟩
  · have hr := Lib.hid (show countMR ns n = popInt (rowsT (treeOf ns)) / 2 ^ (6 - n).toNat by unfold countMR; rw [if_pos h2, count_shift h3 h4 k2])
    have hlow : ¬ 2 ^ n.toNat ≤ varMask ns := of_decide_eq_false hdec
    clear h1 h2 h3 h4 hf hp k1 k2 k3 k4 q0 hdec n0 n6
    generalize rowsT (treeOf ns) = M at *
    generalize popInt M = P at *
    generalize varMask ns = vm at *
    rcases hn7 with rfl | rfl | rfl | rfl | rfl | rfl | rfl
    all_goals
     simp at hlow
     have hw1 : IntKind.i64.wrap 1 = 1 := by decide
     have hw2 : IntKind.i64.wrap 2 = 2 := by decide
     have hw3 : IntKind.i64.wrap 4 = 4 := by decide
     have hw4 : IntKind.i64.wrap 8 = 8 := by decide
     have hw5 : IntKind.i64.wrap 16 = 16 := by decide
     have hw6 : IntKind.i64.wrap 32 = 32 := by decide
     have hw7 : IntKind.i64.wrap 64 = 64 := by decide
     go_enter Try.func33, Try.ntmps33
     go_wp2_with fail
     refine (hcode.out _).mono ?_
     rintro e w1 ⟨rfl, b1⟩
     rw [hc.out]
     go_wp2_with fail
     go_region_held3 (fun W => Below w.heap.size w W) (first | assumption | (exact Below.drew (by assumption)) | (exact keep_step (by assumption) (by assumption))) (first | (go_at_call 57; refine (hin.out _).mono ?_; rintro e w' ⟨rfl, rfl⟩) | (go_at_call 58; refine (hvm.out _ (by assumption)).mono ?_; rintro e w' ⟨rfl, hb'⟩))
     all_goals
       go_wp2_with fail
       refine (hmod.out _ (by assumption)).mono ?_
       rintro e w2 ⟨rfl, rfl⟩
       go_wp2_with fail
       refine (hcnt.out _).mono ?_
       rintro e w2 ⟨rfl, rfl⟩
       go_wp2_with fail
       go_ret2
       first | exact ⟨by rw [hr.out, hc2.out]; rfl, by assumption⟩ | exact ⟨by rw [hr.out, hc2.out, show ((2 : Int) ^ ((6 : Int) - 6).toNat) = 1 from rfl, Int.ediv_one]; rfl, by assumption⟩

set_option maxRecDepth 100000 in
set_option maxHeartbeats 1600000 in
theorem specCountModels_any (v : Value) (ns : List Nd) (n : Int) (w : World) (h : Nodes w v ns) :
    Calls Try.prog 32 #[v, .int .i64 n] w fun e w' => e = .returned (.tuple #[.int .i64 (countMR ns n), .int .i64 (countCode ns n)]) ∧ Below w.heap.size w w' := by
  obtain ⟨a, c, rfl⟩ := h.shape
  have hv := Lib.hid h
  have hcode := Lib.hid (fun t => l04Code_one w a _ c ns t h)
  clear h
  generalize hln : ns.length = ln at *
  have hln := Lib.hid hln
  rcases countCode_cases ns n with ⟨h1, h2⟩ | ⟨h1, h3, h2⟩ | ⟨h1, h3, h4, h2⟩ | ⟨h1, h3, h4, h2⟩
  · have hr := Lib.hid (show countMR ns n = 0 by unfold countMR; rw [if_neg (by omega)])
    have hc2 := Lib.hid h2
    have hne := codeP_ne h1
    clear h1 h2
    go_enter Try.func32, Try.ntmps32
    go_wp2_with fail
    refine (hcode.out _).mono ?_
    rintro e w1 ⟨rfl, b1⟩
    go_wp2_with fail
    go_ret2
    exact ⟨by rw [hr.out, hc2.out]; rfl, b1⟩
  · have hr := Lib.hid (show countMR ns n = 0 by unfold countMR; rw [if_neg (by omega)])
    have hc2 := Lib.hid h2
    have hc := Lib.hid h1
    have hin := Lib.hid h3
    clear h1 h2 h3
    go_enter Try.func32, Try.ntmps32
    go_wp2_with fail
    refine (hcode.out _).mono ?_
    rintro e w1 ⟨rfl, b1⟩
    rw [hc.out]
    go_wp2_with fail
    refine (l01In_any _ _ _ _).mono ?_
    rintro e w' ⟨rfl, rfl⟩
    rw [hin.out]
    go_wp2_with fail
    go_ret2
    exact ⟨by rw [hr.out, hc2.out]; rfl, b1⟩
  all_goals
    obtain ⟨hf, hp⟩ := codeP_one h1
    obtain ⟨k1, k2, k3, k4⟩ := plain_tree hf hp
    have hc2 := Lib.hid h2
    have hc := Lib.hid h1
    have hin := Lib.hid h3
    have hvar := Lib.hid (fun w1 (hb : Below w.heap.size w w1) => l02Variables_any _ ns w1 (hv.out.below hb (Nat.le_refl _)) (form_all hf))
    have hval := Lib.hid (fun w' (hb : Below w.heap.size w w') (k : Nat) (hk : k ≤ 63) => l04Value_any (treeOf ns) _ k w' hk k1 k3 (by rw [k2]; exact hv.out.below hb (Nat.le_refl _)) (by rw [k2]; omega))
    obtain ⟨n0, n6, p0, p1, pe⟩ := pow6 h3
    obtain ⟨vb0, vb1⟩ := varMask_bound (form_all hf)
    have hlast := Lib.hid (last_low (varMask ns).toNat (by omega) n.toNat (by omega))
    have hone := Lib.hid (fun w' => l01One_any n n0 (by omega) w')
  · have hr := Lib.hid (show countMR ns n = 0 by unfold countMR; rw [if_neg (by omega)])
    have hnl : ¬ (varMask ns).toNat < 2 ^ n.toNat := by
      have : ¬ varMask ns < 2 ^ n.toNat := by unfold lowB at h4; exact of_decide_eq_false h4
      omega
    obtain ⟨i, hi1, hi2⟩ := hlast.out.2 hnl
    have hgt : n ≤ i := by omega
    have hi1 := Lib.hid (show (mem (varMask ns))[(mem (varMask ns)).length - 1]? = some i from hi1)
    have hpos : 0 < (mem (varMask ns)).length := by have := (List.getElem?_eq_some_iff.1 hi1.out).1; omega
    clear h1 h2 h3 h4 hf hp k1 k2 k3 k4 hval hlast hone vb0 vb1 pe hnl hi2
    go_enter Try.func32, Try.ntmps32
    go_wp2_with fail
    refine (hcode.out _).mono ?_
    rintro e w1 ⟨rfl, b1⟩
    rw [hc.out]
    go_wp2_with fail
    refine (l01In_any _ _ _ _).mono ?_
    rintro e w' ⟨rfl, rfl⟩
    rw [hin.out]
    go_wp2_with fail
    refine (hvar.out _ b1).mono ?_
    rintro e w2 ⟨v2, rfl, ho2, b2⟩
    have hb2 := b1.trans (b2.mono b1.size)
    have hmlen : (mem (varMask ns)).length ≤ 63 := mem_length_le _
    obtain ⟨_, a2, cp, bb, oo, rfl, hcp, hz, hcell⟩ := (ints_of_own ho2).opened
    clear ho2
    generalize hL : mem (varMask ns) = L at *
    clear hL
    obtain rfl : a2 = some ⟨bb, oo, none⟩ := by
      rcases hz with hz | hz
      · omega
      · exact hz.2
    clear hz
    obtain ⟨x, hx, hcx⟩ := hcell.out (L.length - 1) (by omega)
    rw [hi1.out] at hx
    obtain rfl := Option.some.inj hx
    clear hx
    obtain ⟨m, hm⟩ : ∃ m, L.length = m + 1 := ⟨L.length - 1, by omega⟩
    rw [hm] at hcp hcx hpos hmlen ⊢
    rw [Nat.add_sub_cancel] at hcx
    clear hm hcell
    go_wp2_with fail
    go_ret2
    exact ⟨by rw [hr.out, hc2.out]; rfl, hb2⟩
  · have hr := Lib.hid (show countMR ns n = (cnt (valT (treeOf ns)) (2 ^ n.toNat) : Nat) by unfold countMR; rw [if_pos h2])
    have hnl : (varMask ns).toNat < 2 ^ n.toNat := by
      have : varMask ns < 2 ^ n.toNat := by unfold lowB at h4; exact of_decide_eq_true h4
      omega
    have hno := Lib.hid (fun i (h : (mem (varMask ns))[(mem (varMask ns)).length - 1]? = some i) => show i < n from by
      rcases Int.lt_or_le i n with h5 | h5
      · exact h5
      · exact (hlast.out.1 ⟨i, h, by omega⟩ hnl).elim)
    have hcl := Lib.hid (cnt_le (valT (treeOf ns)))
    clear h1 h2 h3 h4 hf hp k1 k2 k3 k4 hlast vb0 vb1 hnl
    generalize valT (treeOf ns) = p at *
    go_enter Try.func32, Try.ntmps32
    go_wp2_with fail
    refine (hcode.out _).mono ?_
    rintro e w1 ⟨rfl, b1⟩
    rw [hc.out]
    go_wp2_with fail
    refine (l01In_any _ _ _ _).mono ?_
    rintro e w' ⟨rfl, rfl⟩
    rw [hin.out]
    go_wp2_with fail
    refine (hvar.out _ b1).mono ?_
    rintro e w2 ⟨v2, rfl, ho2, b2⟩
    have hb2 := b1.trans (b2.mono b1.size)
    have hmlen : (mem (varMask ns)).length ≤ 63 := mem_length_le _
    obtain ⟨_, a2, cp, bb, oo, rfl, hcp, hz, hcell⟩ := (ints_of_own ho2).opened
    clear ho2
    generalize hL : mem (varMask ns) = L at *
    clear hL
    obtain ⟨Q, hQ⟩ : ∃ Q, Q = 2 ^ n.toNat := ⟨_, rfl⟩
    have hone2 := Lib.hid (fun w' => show Calls Try.prog 52 #[.int .i64 n] w' fun e w'' => e = .returned (.int .i64 (Q : Int)) ∧ w' = w'' from by rw [hQ, ← pe]; exact hone.out w')
    have hQ64 : Q ≤ 64 := by omega
    rw [← hQ] at hr
    clear hone pe p0 p1 hQ
    have hgo : L.length ≤ 0 ∨ ∃ m i, L.length = m + 1 ∧ a2 = some ⟨bb, oo, none⟩ ∧ w2.cell? ⟨bb, oo + m, none⟩ = some (.int .i64 i) ∧ i < n := by
      rcases hz with hz | hz
      · exact .inl hz
      · obtain ⟨x, hx, hcx⟩ := hcell.out (L.length - 1) (by omega)
        exact .inr ⟨L.length - 1, x, by omega, hz.2, hcx, hno.out x hx⟩
    clear hz hcell hno
    rcases hgo with hgo | ⟨m, i, hm, rfl, hcx, hlt⟩
    all_goals
      first | (rw [hm] at hcp hmlen ⊢; clear hm) | skip
      go_wp2_with fail
      go_loop [8, 9] (fun s i => ∃ k : Nat, k ≤ Q ∧ i = .int .i64 k ∧ s = .int .i64 (cnt p k : Nat)) (fun _ i => Q - (intOf i).toNat)
      case atStart => exact ⟨0, by omega, rfl, rfl⟩
      case round =>
        obtain ⟨k, hk, rfl, rfl⟩ := hrel
        have hck := hcl.out k
        go_wp2_with fail
        refine (hone2.out _).mono ?_
        rintro e w' ⟨rfl, rfl⟩
        by_cases hltk : k < Q
        · have hltk2 : (k : Int) < (Q : Int) := by omega
          have hs := Lib.hid (show cnt p (k + 1) = cnt p k + if p k then 1 else 0 from rfl)
          cases hpk : p k
          · have hpk := Lib.hid hpk
            go_wp2_with fail
            refine (hval.out _ hb2 k (by omega)).mono ?_
            rintro e w' ⟨rfl, rfl⟩
            rw [hpk.out]
            go_wp2_with fail
            go_round
            case rel => exact ⟨k + 1, by omega, by go_num, by rw [hs.out, hpk.out]; rfl⟩
            case measure => simp [intOf]; omega
          · have hpk := Lib.hid hpk
            go_wp2_with fail
            refine (hval.out _ hb2 k (by omega)).mono ?_
            rintro e w' ⟨rfl, rfl⟩
            rw [hpk.out]
            go_wp2_with fail
            go_round
            case rel => exact ⟨k + 1, by omega, by go_num, by rw [hs.out, hpk.out]; simp⟩
            case measure => simp [intOf]; omega
        · obtain rfl : k = Q := by omega
          go_wp2_with fail
          go_ret2
          exact ⟨by rw [hr.out, hc2.out]; rfl, hb2⟩
end Go.Proofs.Ytngaadpmmlabmaa
