/- Walks of SubMasks, of the program and of the reference. -/
import Derived.Test.YtfedipeabbaccaaSubMath
import Derived.Test.YtfedipeabbaccaaRelsTwo
namespace Go.Proofs.Ytfedipeabbaccaa
open Go.RowKit

/-- The first n parts of a mask. -/
def preN (M n : Nat) : List Int := (List.range n).map fun j => ((dep 63 M j : Nat) : Int)
theorem preN_length (M n : Nat) : (preN M n).length = n := by simp [preN]
theorem preN_succ (M n : Nat) : preN M (n + 1) = preN M n ++ [((dep 63 M n : Nat) : Int)] := by simp [preN, List.range_succ]
theorem preN_get {M n j : Nat} (h : j < n) : (preN M n)[j]? = some ((dep 63 M j : Nat) : Int) := by simp [preN, h]
theorem preN_one (M : Nat) : preN M 1 = [0] := by simp [preN, List.range_succ, dep_zero]

def subCode (n m : Int) : Int := if maskCode n m = 0 then if popInt m ≤ 8 then 0 else 3 else maskCode n m
def subR (n m : Int) : List Int := if subCode n m = 0 then preN m.toNat (2 ^ ones 63 m.toNat) else []

theorem subCode_cases (n m : Int) : (maskCode n m ≠ 0 ∧ subCode n m = maskCode n m) ∨ (maskCode n m = 0 ∧ 8 < popInt m ∧ subCode n m = 3) ∨ (maskCode n m = 0 ∧ popInt m ≤ 8 ∧ subCode n m = 0) := by
  unfold subCode
  by_cases h : maskCode n m = 0
  · rw [if_pos h]
    by_cases h2 : popInt m ≤ 8
    · exact .inr (.inr ⟨h, h2, if_pos h2⟩)
    · exact .inr (.inl ⟨h, by omega, if_neg h2⟩)
  · exact .inl ⟨h, if_neg h⟩

theorem ones_pop {m : Int} (h0 : 0 ≤ m) (h1 : m < 1073741824) : ((ones 63 m.toNat : Nat) : Int) = popInt m := by
  unfold popInt
  rw [ones_done m.toNat 63 (Nat.div_eq_of_lt (by omega)) (by omega)]

theorem pow_small {c : Nat} (h : c ≤ 8) : 1 ≤ 2 ^ c ∧ 2 ^ c ≤ 256 := by
  have h1 : (2 : Nat) ^ c ≤ 2 ^ 8 := Nat.pow_le_pow_right (by omega) h
  have h2 : 0 < (2 : Nat) ^ c := Nat.pow_pos (by omega)
  omega

theorem subR_length (n m : Int) : (subR n m).length ≤ 1000000 := by
  unfold subR
  rcases subCode_cases n m with ⟨h1, h2⟩ | ⟨h1, h2, h3⟩ | ⟨h1, h2, h3⟩
  · rw [if_neg (by omega)]; simp
  · rw [if_neg (by omega)]; simp
  · rw [if_pos h3, preN_length]
    obtain ⟨_, _, h4, h5⟩ := maskCode_bounds h1
    have := ones_pop h4 h5
    have := pow_small (c := ones 63 m.toNat) (by omega)
    omega

/-- '(sub - mask) & mask'. -/
theorem sub_step (M s : Nat) (hm : M < 1073741824) (hs : s < M) : bits BinOp.and IntKind.i64 ((s : Int) - (M : Int)) (M : Int) = ((nxt 63 M s : Nat) : Int) := by
  have hx : (18446744073709551616 + s - M) &&& M < 2 ^ 63 := Nat.lt_of_le_of_lt Nat.and_le_right (by omega)
  have e : (BitVec.ofInt 64 ((s : Int) - (M : Int))).toNat = 18446744073709551616 + s - M := by
    rw [BitVec.toNat_ofInt]
    have : ((s : Int) - (M : Int)) % ((2 ^ 64 : Nat) : Int) = ((18446744073709551616 + s - M : Nat) : Int) := by
      rw [show ((2 ^ 64 : Nat) : Int) = 18446744073709551616 from rfl]
      omega
    rw [this]; rfl
  show IntKind.i64.wrap ((BitVec.ofInt 64 ((s : Int) - (M : Int)) &&& BitVec.ofInt 64 (M : Int)).toNat : Int) = _
  rw [BitVec.toNat_and, e, i64_ofInt M (by omega), IntKind.wrap_i64]
  have h2 : (18446744073709551616 + s - M) &&& M = nxt 63 M s := by
    unfold nxt
    have h3 : ((18446744073709551616 + s - M) &&& M) % 2 ^ 63 = ((18446744073709551616 + s - M) % 2 ^ 63) &&& (M % 2 ^ 63) := Nat.and_mod_two_pow
    rw [Nat.mod_eq_of_lt hx, Nat.mod_eq_of_lt (show M < 2 ^ 63 by omega)] at h3
    rw [h3]
    congr 1
    omega
  rw [h2] at hx ⊢
  omega

set_option maxHeartbeats 800000 in
theorem subMasks_any (m : Int) (h0 : 0 ≤ m) (h1 : m < 1073741824) (h2 : popInt m ≤ 8) (w : World) :
    Calls Try.prog 54 #[.int .i64 m] w fun e w' => ∃ v, e = .returned v ∧ w'.ownsRow w.heap.size 2 1 v (2 ^ ones 63 m.toNat) ((preN m.toNat (2 ^ ones 63 m.toNat)).map (Value.int .i64)) ∧ Below w.heap.size w w' := by
  obtain ⟨i0, hi, hz0, hz1, hz2⟩ := info_parts info_i64
  obtain ⟨M, rfl⟩ := Int.eq_ofNat_of_zero_le h0
  have hM : M < 1073741824 := by omega
  have hpop := ones_pop h0 h1
  rw [Int.toNat_natCast] at hpop ⊢
  have hc8 : ones 63 M ≤ 8 := by omega
  clear hpop h0 h1 h2
  have hall := Lib.hid (dep_all 63 M (by omega) (ones 63 M) rfl)
  have hinj := Lib.hid (fun i j => dep_inj 63 M i j)
  have hmono := Lib.hid (fun i j => dep_mono 63 M i j)
  have hnxt := Lib.hid (fun j => nxt_dep 63 M j (by omega))
  have hlt63 := Lib.hid (fun j => sub_of_and (dep_and 63 M j))
  obtain ⟨hC1, hC2⟩ := pow_small hc8
  generalize ones 63 M = cc at *
  generalize hC : 2 ^ cc = C at *
  clear hC hc8
  go_enter Try.func54, Try.ntmps54
  go_wp2_with fail
  go_loopw [3, 4] (fun v s wr => ∃ j d : Nat, j < C ∧ d ≤ M ∧ s = .int .i64 d ∧ Hid (d = dep 63 M j) ∧ wr.ownsRow w.heap.size 2 1 v (j + 1) ((preN M (j + 1)).map (Value.int .i64)) ∧ Below w.heap.size w wr) (fun _ s _ => M - (intOf s).toNat)
  case atStart =>
    refine ⟨0, 0, by omega, by omega, rfl, (dep_zero _ _).symm, ?_, (Below.refl _ _).alloc (Nat.le_refl _) _⟩
    rw [preN_one]
    exact World.ownsRow_lit w #[.int .i64 0] 1 (Nat.le_refl _) (by simp [maxLen]) rfl
  case round =>
    obtain ⟨j, d, hj, hd, rfl, hdj, ho, hb⟩ := hrel
    by_cases he : d = M
    · have hjC : j = C - 1 := hinj.out j (C - 1) hj (by omega) (by rw [← hdj.out, he, hall.out])
      subst he
      have ho := Lib.hid ho
      clear hdj
      go_wp2_with fail
      go_ret
      refine ⟨_, rfl, ?_, hb⟩
      have := ho.out
      rw [show j + 1 = C by omega] at this
      exact this
    · have hjC : j + 1 < C := by
        rcases Nat.lt_or_ge (j + 1) C with h | h
        · exact h
        · exfalso; apply he; rw [hdj.out, show j = C - 1 by omega, hall.out]
      have hne : ((d : Int) != (M : Int)) = true := by simpa using fun h : (d : Int) = M => he (by omega)
      have hst := Lib.hid (show bits BinOp.and IntKind.i64 ((d : Int) - (M : Int)) (M : Int) = ((dep 63 M (j + 1) : Nat) : Int) by rw [sub_step M d hM (by omega), hdj.out, hnxt.out j hjC])
      have hd2 : dep 63 M (j + 1) ≤ M := hlt63.out (j + 1)
      have hd3 : d < dep 63 M (j + 1) := by rw [hdj.out]; exact hmono.out j (j + 1) hjC (by omega)
      have hps := Lib.hid (preN_succ M (j + 1))
      have hsz := hb.size
      generalize hdd : dep 63 M (j + 1) = dd at *
      have hdd := Lib.hid hdd
      clear he
      have hst2 := hst.out
      go_wp2_with (at_builtin; refine wpList_append_own _ rfl _ _ 29 rfl w.heap.size 2 i0 (.int .i64 0) 1 8 Try.underlying29 hi hz0 hz1 hz2 rfl (by decide) _ _ _ rfl (ho.alloc _) ⟨wr.heap.size, 0, none⟩ 1 1 [.int .i64 (dd : Int)] rfl rfl (cell_one_new _ _ _) (ints_oneCell .i64 [(dd : Int)]) (by unfold maxLen; omega) (by omega) (by simp; omega) ?_; intro v' w1 hown' hgrow _)
      go_roundw
      case rel =>
        refine ⟨j + 1, dd, by omega, hd2, rfl, hdd.out.symm, ?_, ?_⟩
        · rw [hps.out]; simpa using hown'
        · exact (hb.alloc (by omega) _).grown hgrow (by simp; omega) (fun j hj => (ho.lt j hj).1)
      case measure => simp [intOf]; omega

theorem or30_get (M t j K : Nat) (hM : M < 1073741824) (hK : K ≤ 29) (h : dep 63 M (j + 2 ^ t) = dep 63 M j ||| 2 ^ K) : bits BinOp.or IntKind.i64 ((dep 63 M j : Nat) : Int) (2 ^ K) = ((dep 63 M (2 ^ t + j) : Nat) : Int) := by
  have h1 : dep 63 M j < 1073741824 := dep63_lt hM
  have h2 := or30_pow ((dep 63 M j : Nat) : Int) K (by omega) (by omega) hK
  rw [h2.1, Int.toNat_natCast, Nat.add_comm, h]

set_option maxRecDepth 100000 in
set_option maxHeartbeats 2000000 in
theorem l01Subs_any (m : Int) (h0 : 0 ≤ m) (h1 : m < 1073741824) (h2 : popInt m ≤ 8) (w : World) :
    Calls Try.prog 57 #[.int .i64 m] w fun e w' => ∃ v, e = .returned v ∧ w'.ownsRow w.heap.size 2 1 v (2 ^ ones 63 m.toNat) ((preN m.toNat (2 ^ ones 63 m.toNat)).map (Value.int .i64)) ∧ Below w.heap.size w w' := by
  obtain ⟨i0, hi, hz0, hz1, hz2⟩ := info_parts info_i64
  have hpop := ones_pop h0 h1
  have hml : (mem m).length = ones 63 m.toNat := bitsUpto_ones _ _
  have hM : m.toNat < 1073741824 := by omega
  have hdm := Lib.hid (fun t i j => dep_member (m := m.toNat) (t := t) (i := i) (j := j))
  have hlt := Lib.hid (fun j i => mem_lt (m := m) (n := 30) (by omega) (by omega) (j := j) (i := i))
  rw [← hml] at hpop ⊢
  have hc8 : (mem m).length ≤ 8 := by omega
  clear hml hpop h2
  go_enter Try.func57, Try.ntmps57
  go_wp2_with fail
  refine (l01List_any m h0 (by omega) _).mono ?_
  rintro e w1 ⟨vm, rfl, hm1, b1⟩
  have hown0 := own_below (World.ownsRow_lit (e := 2) (base := w.heap.size) (size := 1) w #[.int .i64 0] 1 (Nat.le_refl _) (by simp [maxLen]) rfl) b1 (Nat.le_refl _)
  have hb1 := ((Below.refl w.heap.size w).alloc (Nat.le_refl _) (.cells #[.int .i64 0] 2)).trans (b1.mono (by simp))
  have hml1 := own_lt hm1
  rcases hm1.2 with ⟨rfl, hn0⟩ | ⟨mg, mcap, mcur, rfl, hmB, hmg, hmnc, hmcm, _, _⟩
  · have hf := Lib.hid hn0
    clear hm1 hml1
    go_wp2_with fail
    refine wp_loop_rounds 1 ?_
    rw [rounds_succ]
    go_wp2_with fail
    go_ret
    refine ⟨_, rfl, ?_, hb1⟩
    rw [hf.out, show (2 : Nat) ^ 0 = 1 from rfl, preN_one]
    exact hown0
  · clear hmg
    have hmgb : w.heap.size < mg := by simp at hmB; omega
    go_wp2_with fail
    go_loopw [3, 5] (fun v i wr => ∃ t N g cap : Nat, t ≤ (mem m).length ∧ i = .int .i64 t ∧ Hid (N = 2 ^ t) ∧ 1 ≤ N ∧ N ≤ 256 ∧ v = .slice (some ⟨g, 0, none⟩) N cap ∧ g ≠ mg ∧ wr.ownsRow w.heap.size 2 1 (.slice (some ⟨g, 0, none⟩) N cap) N ((preN m.toNat N).map (Value.int .i64)) ∧ wr.ownsRow (w.heap.size + 1) 2 1 (.slice (some ⟨mg, 0, none⟩) (mem m).length mcap) (mem m).length ((mem m).map (Value.int .i64)) ∧ Below w.heap.size w wr) (fun _ i _ => (mem m).length - (intOf i).toNat)
    case atStart => exact ⟨0, 1, w.heap.size, 1, by omega, rfl, rfl, by omega, by omega, rfl, by omega, by rw [preN_one]; exact hown0, own_mono hm1 (by simp), hb1⟩
    case round =>
      clear hown0 hb1 hm1 hml1 b1
      obtain ⟨t, N, g, cap, ht, rfl, hN, hN1, hN2, rfl, hgm, ho, hm1, hb⟩ := hrel
      by_cases hlt1 : t < (mem m).length
      · obtain ⟨⟨i, hit, hci⟩, _⟩ := own_cell hm1 hlt1
        obtain ⟨i0', i1, _⟩ := hlt.out t i hit
        obtain ⟨K, rfl⟩ := Int.eq_ofNat_of_zero_le i0'
        have hN3 : N ≤ 128 := by
          have h5 : (2 : Nat) ^ t ≤ 2 ^ 7 := Nat.pow_le_pow_right (by omega) (by omega)
          have := hN.out
          omega
        have hdep := Lib.hid (fun j (hj : j < N) => by
          obtain ⟨k, hk, _, hd⟩ := hdm.out t _ j hit (by rw [← hN.out]; exact hj)
          have : K = k := by omega
          subst this
          exact or30_get m.toNat t j K hM (by omega) hd)
        clear hit
        have hoH := Lib.hid ho
        have hmH := Lib.hid hm1
        clear ho hm1
        go_wp2_with fail
        have ho := hoH.out
        have hm1 := hmH.out
        clear hoH hmH
        go_loopw [3, 7] (fun v i wr => ∃ k g cap : Nat, k ≤ N ∧ i = .int .i64 k ∧ v = .slice (some ⟨g, 0, none⟩) (N + k) cap ∧ g ≠ mg ∧ wr.ownsRow w.heap.size 2 1 (.slice (some ⟨g, 0, none⟩) (N + k) cap) (N + k) ((preN m.toNat (N + k)).map (Value.int .i64)) ∧ wr.ownsRow (w.heap.size + 1) 2 1 (.slice (some ⟨mg, 0, none⟩) (mem m).length mcap) (mem m).length ((mem m).map (Value.int .i64)) ∧ wr.cell? ⟨mg, t, none⟩ = some (.int .i64 (K : Int)) ∧ Below w.heap.size w wr) (fun _ i _ => N - (intOf i).toNat)
        case atStart => exact ⟨0, g, cap, Nat.zero_le _, rfl, rfl, hgm, ho, hm1, hci, hb⟩
        case round =>
          clear ho hm1 hci hb hgm
          obtain ⟨k, g, cap, hk, rfl, rfl, hgm, ho, hm1, hci, hb⟩ := hrel
          by_cases hlt2 : k < N
          · obtain ⟨⟨z, hz, hcz⟩, _⟩ := own_cell ho (show k < N + k by omega)
            rw [preN_get (by omega)] at hz
            obtain rfl := Option.some.inj hz
            have hor := Lib.hid (hdep.out k hlt2)
            have hps := Lib.hid (preN_succ m.toNat (N + k))
            have hN' := hN.out
            rw [← hN'] at hor
            clear hN'
            generalize ((dep 63 m.toNat k : Nat) : Int) = z at *
            generalize hdd : ((dep 63 m.toNat (N + k) : Nat) : Int) = dd at *
            clear hdd hz
            have hsz := hb.size
            have hml1 := own_lt hm1
            have hgl := World.block_lt_of_cell? wr _ hcz
            have hmgl := World.block_lt_of_cell? wr _ hci
            simp only at hgl hmgl
            have hm1 := Lib.hid hm1
            obtain ⟨hp1, hp2⟩ := pow_nat_bounds K (by omega)
            have hkn : (k : Int) < (N : Int) + (k : Int) := by omega
            have htn : (t : Int) < ((mem m).length : Int) := by omega
            have ho2 := Lib.hid (show wr.drew.ownsRow w.heap.size 2 1 (.slice (some ⟨g, 0, none⟩) (N + k) cap) (N + k) ((preN m.toNat (N + k)).map (Value.int .i64)) from ho)
            have ho := Lib.hid ho
            go_wp2_with fail
            go_region_law (first | (refine step_append_lies _ (by rfl) _ _ _ (by rfl) w.heap.size 2 i0 _ 1 8 Try.underlying29 hi hz0 hz1 hz2 rfl (by omega) _ (N + k) _ (by rfl) (ho2.out.alloc _) ⟨wr.heap.size, 0, none⟩ 1 1 [.int .i64 (bits BinOp.or IntKind.i64 z (2 ^ K))] (by rfl) (by rfl) (World.news_of_block (cs := #[.int .i64 (bits BinOp.or IntKind.i64 z (2 ^ K))]) (t := 2) (fr := (0, 0)) (heap_alloc_new _ _)) (by simp [Value.oneCell']) (by omega) (by unfold maxLen; omega) (by omega) (by simp; omega) (wr.heap.size + 1) (by simp) ?_; intro gg gcap w1 hown' hgrow hat hgt) | (go_simp; go_at_call 71; refine (l01One_any _ (by omega) (by omega) _).mono ?_; rintro e w' ⟨rfl, rfl⟩))
            all_goals
              go_wp2_with fail
              go_roundw
              case rel =>
                have hgg : gg = g ∨ gg = wr.heap.size + 1 := by
                  rcases hat with h | h
                  · left; simp [Value.ownBlock] at h; omega
                  · exact .inr h
                have hkeep : (wr.drew.alloc (.cells #[.int .i64 (bits BinOp.or IntKind.i64 z (2 ^ K))] 2)).ownsRow (w.heap.size + 1) 2 1 (.slice (some ⟨mg, 0, none⟩) (mem m).length mcap) (mem m).length ((mem m).map (Value.int .i64)) := World.ownsRow.alloc (w := wr.drew) hm1.out _
                have hm2 := hkeep.kept hgrow (.inr (by simp [Value.ownBlock]; omega))
                refine ⟨k + 1, gg, gcap, by omega, by go_num, rfl, by omega, ?_, hm2, ?_, ?_⟩
                · rw [← Nat.add_assoc, hps.out, ← hor.out]; simpa using hown'
                · exact (hm2.cellAt t (by omega)).trans ((hm1.out.cellAt t (by omega)).symm.trans hci)
                · exact ((hb.drew).alloc (by simpa using hsz) _).grown hgrow (by simp; omega) (fun j hj => (ho2.out.lt j hj).1)
              case measure => simp [intOf]; omega
          · obtain rfl : k = N := by omega
            have hN2' := Lib.hid (show k + k = 2 ^ (t + 1) by rw [Nat.pow_succ, ← hN.out]; omega)
            have ho := Lib.hid ho
            have hm1 := Lib.hid hm1
            go_wp2_with fail
            go_roundw
            case rel => exact ⟨t + 1, k + k, g, cap, by omega, by go_num, hN2'.out, by omega, by omega, rfl, hgm, ho.out, hm1.out, hb⟩
            case measure => simp [intOf]; omega
      · obtain rfl : t = (mem m).length := by omega
        have ho := Lib.hid ho
        have hm1 := Lib.hid hm1
        go_wp2_with fail
        go_ret
        refine ⟨_, rfl, ?_, hb⟩
        have := ho.out
        rw [hN.out] at this
        rw [← hN.out] at this ⊢
        exact this

set_option maxHeartbeats 400000 in
theorem implSubMasks_any (n m : Int) (w : World) :
    Calls Try.prog 23 #[.int .i64 n, .int .i64 m] w fun e w' => ∃ v, e = .returned (.tuple #[v, .int .i64 (subCode n m)]) ∧ w'.ownsRow w.heap.size 2 1 v (subR n m).length ((subR n m).map (Value.int .i64)) ∧ Below w.heap.size w w' := by
  rcases subCode_cases n m with ⟨h1, h2⟩ | ⟨h1, h2, h3⟩ | ⟨h1, h2, h3⟩
  · have hf := Lib.hid (show subR n m = [] by unfold subR; rw [if_neg (by omega)])
    have hc := Lib.hid h2
    have hne := maskCode_ne h1
    clear h1 h2
    go_enter Try.func23, Try.ntmps23
    go_wp2_with fail
    refine (maskCode_any _ _ _).mono ?_
    rintro e w' ⟨rfl, rfl⟩
    go_wp2_with fail
    go_ret2
    exact ⟨_, by rw [hc.out]; rfl, by rw [hf.out]; exact World.ownsRow_nil _ _ _ _, Below.refl _ _⟩
  · have hf := Lib.hid (show subR n m = [] by unfold subR; rw [if_neg (by omega)])
    have hc := Lib.hid h3
    have hz := Lib.hid h1
    obtain ⟨_, _, h4, h5⟩ := maskCode_bounds h1
    have h2H := Lib.hid h2
    clear h1 h3
    go_enter Try.func23, Try.ntmps23
    go_wp2_with fail
    refine (maskCode_any _ _ _).mono ?_
    rintro e w' ⟨rfl, rfl⟩
    rw [hz.out]
    go_wp2_with fail
    refine (countMembers_any _ h4 (by omega) _).mono ?_
    rintro e w' ⟨rfl, rfl⟩
    go_wp2_with fail
    go_ret2
    exact ⟨_, by rw [hc.out]; rfl, by rw [hf.out]; exact World.ownsRow_nil _ _ _ _, Below.refl _ _⟩
  · have hf := Lib.hid (show subR n m = preN m.toNat (2 ^ ones 63 m.toNat) ∧ (preN m.toNat (2 ^ ones 63 m.toNat)).length = 2 ^ ones 63 m.toNat from ⟨by unfold subR; rw [if_pos h3], preN_length _ _⟩)
    have hc := Lib.hid h3
    have hz := Lib.hid h1
    obtain ⟨_, _, h4, h5⟩ := maskCode_bounds h1
    have h2H := Lib.hid h2
    clear h1 h3
    go_enter Try.func23, Try.ntmps23
    go_wp2_with fail
    refine (maskCode_any _ _ _).mono ?_
    rintro e w' ⟨rfl, rfl⟩
    rw [hz.out]
    go_wp2_with fail
    refine (countMembers_any _ h4 (by omega) _).mono ?_
    rintro e w' ⟨rfl, rfl⟩
    have h2n : decide (8 < popInt m) = false := by simp; omega
    generalize popInt m = p at h2 h2n ⊢
    clear h2
    go_wp2_with fail
    refine (subMasks_any m h4 h5 h2H.out _).mono ?_
    rintro e w2 ⟨v2, rfl, ho, b2⟩
    have ho := Lib.hid ho
    go_wp2_with fail
    go_ret2
    exact ⟨_, by rw [hc.out]; rfl, by rw [hf.out.1, hf.out.2]; exact ho.out, b2⟩

set_option maxHeartbeats 400000 in
theorem specSubMasks_any (n m : Int) (w : World) :
    Calls Try.prog 24 #[.int .i64 n, .int .i64 m] w fun e w' => ∃ v, e = .returned (.tuple #[v, .int .i64 (subCode n m)]) ∧ w'.ownsRow w.heap.size 2 1 v (subR n m).length ((subR n m).map (Value.int .i64)) ∧ Below w.heap.size w w' := by
  rcases subCode_cases n m with ⟨h1, h2⟩ | ⟨h1, h2, h3⟩ | ⟨h1, h2, h3⟩
  · have hf := Lib.hid (show subR n m = [] by unfold subR; rw [if_neg (by omega)])
    have hc := Lib.hid h2
    have hne := maskCode_ne h1
    clear h1 h2
    go_enter Try.func24, Try.ntmps24
    go_wp2_with fail
    refine (l01Code_any _ _ _).mono ?_
    rintro e w' ⟨rfl, rfl⟩
    go_wp2_with fail
    go_ret2
    exact ⟨_, by rw [hc.out]; rfl, by rw [hf.out]; exact World.ownsRow_nil _ _ _ _, Below.refl _ _⟩
  · have hf := Lib.hid (show subR n m = [] by unfold subR; rw [if_neg (by omega)])
    have hc := Lib.hid h3
    have hz := Lib.hid h1
    obtain ⟨_, _, h4, h5⟩ := maskCode_bounds h1
    have h2H := Lib.hid h2
    clear h1 h3
    go_enter Try.func24, Try.ntmps24
    go_wp2_with fail
    refine (l01Code_any _ _ _).mono ?_
    rintro e w' ⟨rfl, rfl⟩
    rw [hz.out]
    go_wp2_with fail
    refine (l01Bits_any _ h4 (by omega) _).mono ?_
    rintro e w' ⟨rfl, rfl⟩
    go_wp2_with fail
    go_ret2
    exact ⟨_, by rw [hc.out]; rfl, by rw [hf.out]; exact World.ownsRow_nil _ _ _ _, Below.refl _ _⟩
  · have hf := Lib.hid (show subR n m = preN m.toNat (2 ^ ones 63 m.toNat) ∧ (preN m.toNat (2 ^ ones 63 m.toNat)).length = 2 ^ ones 63 m.toNat from ⟨by unfold subR; rw [if_pos h3], preN_length _ _⟩)
    have hc := Lib.hid h3
    have hz := Lib.hid h1
    obtain ⟨_, _, h4, h5⟩ := maskCode_bounds h1
    have h2H := Lib.hid h2
    clear h1 h3
    go_enter Try.func24, Try.ntmps24
    go_wp2_with fail
    refine (l01Code_any _ _ _).mono ?_
    rintro e w' ⟨rfl, rfl⟩
    rw [hz.out]
    go_wp2_with fail
    refine (l01Bits_any _ h4 (by omega) _).mono ?_
    rintro e w' ⟨rfl, rfl⟩
    have h2n : decide (8 < popInt m) = false := by simp; omega
    generalize popInt m = p at h2 h2n ⊢
    clear h2
    go_wp2_with fail
    refine (l01Subs_any m h4 h5 h2H.out _).mono ?_
    rintro e w2 ⟨v2, rfl, ho, b2⟩
    have ho := Lib.hid ho
    go_wp2_with fail
    go_ret2
    exact ⟨_, by rw [hc.out]; rfl, by rw [hf.out.1, hf.out.2]; exact ho.out, b2⟩
end Go.Proofs.Ytfedipeabbaccaa
