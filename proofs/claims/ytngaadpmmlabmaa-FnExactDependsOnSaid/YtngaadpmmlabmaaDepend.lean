/- Walks of DependsOn, of the program and of the reference. -/
import Derived.Test.YtngaadpmmlabmaaDependMath
import Derived.Test.YtngaadpmmlabmaaTable
import Derived.IntWalk
namespace Go.Proofs.Ytngaadpmmlabmaa
open Go.RowKit Go.Deep

theorem wo_bits (p : Nat → Bool) (v : Nat) (hv : v < 6) (k : Nat) (hk : k = 2 ^ v) :
    bits BinOp.or IntKind.u64 (bits BinOp.or IntKind.u64 ((rowsOf p 64 : Nat) : Int) (((rowsOf (fun i => p i && i.testBit v) 64 : Nat) : Int) / 2 ^ k)) (IntKind.u64.wrap (((rowsOf (fun i => p i && !i.testBit v) 64 : Nat) : Int) * 2 ^ k)) = ((rowsOf (wo p v) 64 : Nat) : Int) := by
  have h1 := rows64_lt p
  have h2 := rows64_lt (fun i => p i && i.testBit v)
  have h3 := rows64_lt (fun i => p i && !i.testBit v)
  rw [← wo_rows p v hv, ← hk]
  generalize rowsOf (fun i => p i && i.testBit v) 64 = H at *
  generalize rowsOf (fun i => p i && !i.testBit v) 64 = L at *
  generalize rowsOf p 64 = S at *
  have e1 : ((H : Int) / 2 ^ k) = ((H / 2 ^ k : Nat) : Int) := by simp
  have e2 : ((L : Int) * 2 ^ k) = ((L * 2 ^ k : Nat) : Int) := by simp
  have h4 : H / 2 ^ k ≤ H := Nat.div_le_self _ _
  have h5 : S ||| H / 2 ^ k < 2 ^ 64 := Nat.or_lt_two_pow h1 (by omega)
  rw [e1, e2, IntKind.wrap_u64, u64_or_nat _ _ h1 (by omega)]
  have e3 : ((L * 2 ^ k : Nat) : Int) % 18446744073709551616 = ((L * 2 ^ k % 18446744073709551616 : Nat) : Int) := by omega
  rw [e3, u64_or_nat _ _ (by omega) (by omega)]

theorem and_bits (p : Nat → Bool) (v : Nat) : bits BinOp.and IntKind.u64 ((rowsOf p 64 : Nat) : Int) ((rowsOf (fun i => i.testBit v) 64 : Nat) : Int) = ((rowsOf (fun i => p i && i.testBit v) 64 : Nat) : Int) := by
  rw [u64_and_nat _ _ (rows64_lt _) (rows64_lt _), rows_and]
theorem andnot_bits (p : Nat → Bool) (v : Nat) : bits BinOp.andNot IntKind.u64 ((rowsOf p 64 : Nat) : Int) ((rowsOf (fun i => i.testBit v) 64 : Nat) : Int) = ((rowsOf (fun i => p i && !i.testBit v) 64 : Nat) : Int) := by
  rw [u64_andNot_nat _ _ (rows64_lt _) (rows64_lt _), rows_andnot]

set_option maxHeartbeats 1600000 in
theorem without_any (p : Nat → Bool) (v : Nat) (hv : v < 6) (w : World) :
    Calls Try.prog 53 #[.int .u64 (rowsOf p 64 : Nat), .int .i64 v] w fun e w' => e = .returned (.int .u64 (rowsOf (wo p v) 64 : Nat)) ∧ Below w.heap.size w w' := by
  have hvr := Lib.hid (fun w => variableRows_any (v : Int) w (by omega) (by omega))
  have e1 := and_bits p v
  have e2 := andnot_bits p v
  have hfin := Lib.hid (wo_bits p v hv (2 ^ v) rfl)
  simp only [Int.toNat_natCast] at hvr
  generalize ((rowsOf p 64 : Nat) : Int) = S at *
  generalize ((rowsOf (fun i => i.testBit v) 64 : Nat) : Int) = V at *
  generalize ((rowsOf (fun i => p i && i.testBit v) 64 : Nat) : Int) = H at *
  generalize ((rowsOf (fun i => p i && !i.testBit v) 64 : Nat) : Int) = L at *
  generalize ((rowsOf (wo p v) 64 : Nat) : Int) = R at *
  have hcases : v = 0 ∨ v = 1 ∨ v = 2 ∨ v = 3 ∨ v = 4 ∨ v = 5 := by omega
  rcases hcases with rfl | rfl | rfl | rfl | rfl | rfl
  all_goals
    go_enter Try.func53, Try.ntmps53
    go_wp2_with fail
    refine (hvr.out _).mono ?_
    rintro e w' ⟨rfl, rfl⟩
    go_wp2_with fail
    refine (hvr.out _).mono ?_
    rintro e w' ⟨rfl, rfl⟩
    go_wp2_with fail
    go_quiet (fail)
    go_wp2_with fail
    go_ret
    refine ⟨ret_int ?_, below_drewN' _ _⟩
    exact hfin.out

theorem dep_int (p : Nat → Bool) (v : Nat) (hv : v < 6) : (((rowsOf (wo p v) 64 : Nat) : Int) != ((rowsOf p 64 : Nat) : Int)) = depB p v := by
  rw [← dep_wo p v hv, Bool.eq_iff_iff, bne_iff_ne, bne_iff_ne]
  omega

def dependsR (ns : List Nd) : List Int := if codeP [ns] = 0 then depsL (valT (treeOf ns)) 6 else []
theorem dependsR_length (ns : List Nd) : (dependsR ns).length ≤ 1000000 := by
  unfold dependsR
  split
  · have := depsL_length (valT (treeOf ns)) 6; omega
  · simp

set_option maxHeartbeats 800000 in
theorem implDependsOn_any (v : Value) (ns : List Nd) (w : World) (h : Nodes w v ns) :
    Calls Try.prog 31 #[v] w fun e w' => ∃ v', e = .returned (.tuple #[v', .int .i64 (codeP [ns])]) ∧ w'.ownsRow w.heap.size 2 1 v' (dependsR ns).length ((dependsR ns).map (Value.int .i64)) ∧ Below w.heap.size w w' := by
  obtain ⟨i0, hi, hz0, hz1, hz2⟩ := info_parts info_i64
  obtain ⟨a, c, rfl⟩ := h.shape
  have hv := Lib.hid h
  have hcode := Lib.hid (fun t => plainCode_one w a _ c ns t h)
  clear h
  generalize ns.length = n at *
  by_cases h0 : codeP [ns] = 0
  · obtain ⟨hf, hp⟩ := codeP_one h0
    obtain ⟨h1, h2, h3, h4⟩ := plain_tree hf hp
    have hmod := Lib.hid (show ∀ w1 (hb : Below w.heap.size w w1), Calls Try.prog 39 #[.slice a n c] w1 fun e w' => e = .returned (.int .u64 (rowsOf (valT (treeOf ns)) 64 : Nat)) ∧ w1 = w' from fun w1 hb => modelsOf_any (treeOf ns) _ w1 h1 h3 (by rw [h2]; exact hv.out.below hb (Nat.le_refl _)) (by rw [h2]; omega))
    have hr := Lib.hid (show dependsR ns = depsL (valT (treeOf ns)) 6 by simp [dependsR, h0])
    have hc := Lib.hid h0
    clear h0 hf hp h1 h2 h3 h4
    generalize valT (treeOf ns) = p at *
    have hwo := Lib.hid (without_any p)
    have hdi := Lib.hid (dep_int p)
    generalize ((rowsOf p 64 : Nat) : Int) = S at *
    go_enter Try.func31, Try.ntmps31
    go_wp2_with fail
    refine (hcode.out _).mono ?_
    rintro e w1 ⟨rfl, b1⟩
    rw [hc.out]
    go_wp2_with fail
    refine (hmod.out _ b1).mono ?_
    rintro e w2 ⟨rfl, rfl⟩
    go_wp2_with fail
    go_loopw [6, 16] (fun u i wr => ∃ k : Nat, k ≤ 6 ∧ i = .int .i64 k ∧ wr.ownsRow w.heap.size 2 1 u (depsL p k).length ((depsL p k).map (Value.int .i64)) ∧ Below w.heap.size w wr) (fun _ i _ => 6 - (intOf i).toNat)
    case atStart => exact ⟨0, by omega, rfl, World.ownsRow_nil _ _ _ _, b1⟩
    case round =>
      obtain ⟨k, hk, rfl, ho, hb⟩ := hrel
      by_cases hlt : k < 6
      · have hl := depsL_length p k
        have hsz := hb.size
        have ho := Lib.hid ho
        have hdk := hdi.out k hlt
        have hwk := Lib.hid (hwo.out k hlt wr)
        generalize ((rowsOf (wo p k) 64 : Nat) : Int) = R at *
        cases hd : depB p k
        · have hs := Lib.hid (depsL_no hd)
          rw [hd] at hdk
          clear hd
          go_wp2_with fail
          refine hwk.out.mono ?_
          rintro e w3 ⟨rfl, b3⟩
          have ho3 := Lib.hid (own_below ho.out b3 (Nat.le_refl _))
          go_wp2_with fail
          go_roundw
          case rel => exact ⟨k + 1, by omega, by go_num, by rw [hs.out]; exact ho3.out, hb.trans (b3.mono hb.size)⟩
          case measure => simp [intOf]; omega
        · have hs := Lib.hid (depsL_yes hd)
          rw [hd] at hdk
          clear hd
          go_wp2_with fail
          refine hwk.out.mono ?_
          rintro e w3 ⟨rfl, b3⟩
          have ho3 := Lib.hid (own_below ho.out b3 (Nat.le_refl _))
          have hb3 := hb.trans (b3.mono hb.size)
          have hsz3 := hb3.size
          go_wp2_with (at_builtin; refine wpList_append_own _ rfl _ _ 42 rfl w.heap.size 2 i0 (.int .i64 0) 1 8 Try.underlying42 hi hz0 hz1 hz2 rfl (by decide) _ _ _ rfl (ho3.out.alloc _) ⟨w3.heap.size, 0, none⟩ 1 1 [.int .i64 (k : Int)] rfl rfl (cell_one_new _ _ _) (ints_oneCell .i64 [(k : Int)]) (by unfold maxLen; omega) (by omega) (by simp; omega) ?_; intro v' w4 hown' hgrow _)
          go_roundw
          case rel =>
            refine ⟨k + 1, by omega, by go_num, ?_, ?_⟩
            · rw [hs.out]; simpa using hown'
            · exact (hb3.alloc (by omega) _).grown hgrow (by simp; omega) (fun j hj => (ho3.out.lt j hj).1)
          case measure => simp [intOf]; omega
      · obtain rfl : k = 6 := by omega
        have ho := Lib.hid ho
        go_wp2_with fail
        go_ret2
        exact ⟨_, by rw [hc.out]; rfl, by rw [hr.out]; exact ho.out, hb⟩
  · have hr := Lib.hid (show dependsR ns = [] by simp [dependsR, h0])
    have hne := codeP_ne h0
    clear h0
    go_enter Try.func31, Try.ntmps31
    go_wp2_with fail
    refine (hcode.out _).mono ?_
    rintro e w1 ⟨rfl, b1⟩
    go_wp2_with fail
    go_ret2
    exact ⟨_, rfl, by rw [hr.out]; exact World.ownsRow_nil _ _ _ _, b1⟩

theorem low_row {v i : Nat} (hv : v < 6) (hi : i < 64) (h : i.testBit v = false) : i + 2 ^ v < 64 := (flip_of hv hi).2.2.2.2.1 h

set_option maxRecDepth 100000 in
set_option maxHeartbeats 4000000 in
theorem specDependsOn_any (v : Value) (ns : List Nd) (w : World) (h : Nodes w v ns) :
    Calls Try.prog 30 #[v] w fun e w' => ∃ v', e = .returned (.tuple #[v', .int .i64 (codeP [ns])]) ∧ w'.ownsRow w.heap.size 2 1 v' (dependsR ns).length ((dependsR ns).map (Value.int .i64)) ∧ Below w.heap.size w w' := by
  obtain ⟨i0, hi, hz0, hz1, hz2⟩ := info_parts info_i64
  obtain ⟨a, c, rfl⟩ := h.shape
  have hv := Lib.hid h
  have hcode := Lib.hid (fun t => l04Code_one w a _ c ns t h)
  clear h
  generalize ns.length = n at *
  by_cases h0 : codeP [ns] = 0
  · obtain ⟨hf, hp⟩ := codeP_one h0
    obtain ⟨h1, h2, h3, h4⟩ := plain_tree hf hp
    have htab := Lib.hid (fun w1 (hb : Below w.heap.size w w1) => l04Table_any (treeOf ns) _ w1 h1 h3 (by rw [h2]; exact hv.out.below hb (Nat.le_refl _)) (by rw [h2]; omega))
    have hr := Lib.hid (show dependsR ns = depsL (valT (treeOf ns)) 6 by simp [dependsR, h0])
    have hc := Lib.hid h0
    clear h0 hf hp h1 h2 h3 h4
    generalize valT (treeOf ns) = p at *
    have hget := Lib.hid (fun (i : Nat) (hi : i < 64) => tabL_get (p := p) hi)
    go_enter Try.func30, Try.ntmps30
    go_wp2_with fail
    refine (hcode.out _).mono ?_
    rintro e w1 ⟨rfl, b1⟩
    rw [hc.out]
    go_wp2_with fail
    have bA := b1.alloc b1.size (.cells #[] 2)
    have hl0 := Lib.hid (World.ownsRow_lit (e := 2) (base := w.heap.size) (size := 1) w1 #[] 0 b1.size (by simp [maxLen]) rfl)
    refine (htab.out _ bA).mono ?_
    rintro e w2 ⟨v2, rfl, ho2, b2⟩
    have hb2 := bA.trans (b2.mono bA.size)
    have hl0 := Lib.hid (own_below hl0.out b2 (Nat.le_refl _))
    have hs1 := b1.size
    obtain ⟨_, a2, cp, bb, oo, rfl, hcp, hz, hcell⟩ := (bools_of_own ho2).opened
    rw [tabL_length] at *
    obtain rfl : a2 = some ⟨bb, oo, none⟩ := by
      rcases hz with hz | hz
      · omega
      · exact hz.2
    clear hz
    have hbb : w1.heap.size < bb ∧ bb < w2.heap.size := by
      have h1 := ho2.lt bb rfl
      simp at h1
      omega
    obtain ⟨hbb1, hbb2⟩ := hbb
    clear ho2
    go_wp2_with fail
    go_loopw [5, 7] (fun u i wr => ∃ k : Nat, k ≤ 6 ∧ i = .int .i64 k ∧ wr.ownsRow w.heap.size 2 1 u (depsL p k).length ((depsL p k).map (Value.int .i64)) ∧ Hid (∀ j, u.ownBlock = some j → j ≠ bb) ∧ Hid (∀ j, j < 64 → wr.cell? ⟨bb, oo + j, none⟩ = some (.bool (p j))) ∧ bb < wr.heap.size ∧ Below w.heap.size w wr) (fun _ i _ => 6 - (intOf i).toNat)
    case atStart =>
      refine ⟨0, by omega, rfl, by rw [show depsL p 0 = [] from rfl]; simpa using hl0.out, fun j hj => ?_, fun j hj => ?_, hbb2, hb2⟩
      · simp [Value.ownBlock] at hj; omega
      · obtain ⟨x, hx, hcx⟩ := hcell.out j hj
        rw [hget.out j hj] at hx
        obtain rfl := Option.some.inj hx
        exact hcx
    case round =>
      clear hl0 hb2 bA b2 hcell
      obtain ⟨k, hk, rfl, ho, hne, hcb, hbl, hb⟩ := hrel
      by_cases hlt : k < 6
      · have hl := depsL_length p k
        have ho := Lib.hid ho
        go_wp2_with fail
        go_loopw [8, 9] (fun d i wr2 => ∃ j : Nat, j ≤ 64 ∧ i = .int .i64 j ∧ d = .bool (depUpto p k j) ∧ Hid (wr2.ownsRow w.heap.size 2 1 u5 (depsL p k).length ((depsL p k).map (Value.int .i64))) ∧ Hid (∀ j, j < 64 → wr2.cell? ⟨bb, oo + j, none⟩ = some (.bool (p j))) ∧ bb < wr2.heap.size ∧ Below w.heap.size w wr2) (fun _ i _ => 64 - (intOf i).toNat)
        case atStart => exact ⟨0, by omega, rfl, rfl, ho, hcb, hbl, hb⟩
        case round =>
          clear ho hcb hbl hb
          obtain ⟨j, hj, rfl, rfl, ho, hcb, hbl, hb⟩ := hrel
          by_cases hlt2 : j < 64
          · have hds := Lib.hid (depUpto_succ p k j)
            have hcx := hcb.out j hlt2
            cases hd : depUpto p k j
            · cases hbit : hasB (j : Int) (k : Int)
              · have hbitN : j.testBit k = false := by simpa [hasB] using hbit
                have hlow := low_row hlt hlt2 hbitN
                have hcy := hcb.out (j + 2 ^ k) hlow
                have hds2 := Lib.hid (show depUpto p k (j + 1) = (p j != p (j + 2 ^ k)) by rw [hds.out, hd, hbitN]; simp)
                have hbc := Lib.hid (fun w' => show Calls Try.prog 51 #[.int .i64 (j : Int), .int .i64 (k : Int)] w' fun e w'' => e = .returned (.bool false) ∧ w' = w'' from by rw [← hbit]; exact l01Bit_any _ _ (by omega) (by omega) (by omega) (by omega) _)
                have hoc := Lib.hid (fun w' => show Calls Try.prog 52 #[.int .i64 (k : Int)] w' fun e w'' => e = .returned (.int .i64 ((2 ^ k : Nat) : Int)) ∧ w' = w'' from by
                  have := l01One_any (k : Int) (by omega) (by omega) w'
                  rw [show ((2 : Int) ^ ((k : Nat) : Int).toNat) = ((2 ^ k : Nat) : Int) by simp] at this
                  exact this)
                generalize p (j + 2 ^ k) = py at *
                generalize p j = px at *
                generalize 2 ^ k = B at *
                clear hd hbit hbitN
                have hs1 : IntKind.i64.wrap ((j : Int) + (B : Int)) = (j : Int) + (B : Int) := IntWalk.i64_in _ (by omega)
                have hs2 : 0 ≤ (j : Int) + (B : Int) := by omega
                have hs3 : ((j : Int) + (B : Int)).toNat = j + B := by omega
                have hs4 : (j : Int) + (B : Int) < 64 := by omega
                cases px <;> cases py
                all_goals
                  go_wp2_with fail
                  go_quiet (first | (go_at_call 51; exact quiet_eq (hbc.out _)) | (go_at_call 52; exact quiet_eq (hoc.out _)))
                  go_wp2_with fail
                  go_roundw
                  case rel => exact ⟨j + 1, by omega, by go_num, by rw [hds2.out]; rfl, ho, hcb, hbl, below_drewN hb _⟩
                  case measure => simp [intOf]; omega
              · have hbitN : j.testBit k = true := by simpa [hasB] using hbit
                have hds2 := Lib.hid (show depUpto p k (j + 1) = false by rw [hds.out, hd, hbitN]; simp)
                have hbc := Lib.hid (fun w' => show Calls Try.prog 51 #[.int .i64 (j : Int), .int .i64 (k : Int)] w' fun e w'' => e = .returned (.bool true) ∧ w' = w'' from by rw [← hbit]; exact l01Bit_any _ _ (by omega) (by omega) (by omega) (by omega) _)
                clear hd hbit hbitN
                go_wp2_with fail
                go_quiet (first | (go_at_call 51; exact quiet_eq (hbc.out _)))
                go_wp2_with fail
                go_roundw
                case rel => exact ⟨j + 1, by omega, by go_num, by rw [hds2.out], ho, hcb, hbl, below_drewN hb _⟩
                case measure => simp [intOf]; omega
            · have hds2 := Lib.hid (show depUpto p k (j + 1) = true by rw [hds.out, hd]; rfl)
              clear hd
              go_wp2_with fail
              go_quiet (fail)
              go_wp2_with fail
              go_roundw
              case rel => exact ⟨j + 1, by omega, by go_num, by rw [hds2.out], ho, hcb, hbl, below_drewN hb _⟩
              case measure => simp [intOf]; omega
          · obtain rfl : j = 64 := by omega
            cases hd : depB p k
            · have hs := Lib.hid (depsL_no hd)
              have hd2 : depUpto p k 64 = false := hd
              rw [hd2]
              clear hd hd2
              go_wp2_with fail
              go_roundw
              case rel => exact ⟨k + 1, by omega, by go_num, by rw [hs.out]; exact ho.out, hne, hcb, hbl, hb⟩
              case measure => simp [intOf]; omega
            · have hs := Lib.hid (depsL_yes hd)
              have hd2 : depUpto p k 64 = true := hd
              rw [hd2]
              clear hd hd2
              have hsz := hb.size
              go_wp2_with (at_builtin; refine wpList_append_own_at _ rfl _ _ 42 rfl w.heap.size 2 i0 (.int .i64 0) 1 8 Try.underlying42 hi hz0 hz1 hz2 rfl (by decide) _ _ _ rfl (ho.out.alloc _) ⟨wr.heap.size, 0, none⟩ 1 1 [.int .i64 (k : Int)] rfl rfl (cell_one_new _ _ _) (ints_oneCell .i64 [(k : Int)]) (by unfold maxLen; omega) (by omega) (by simp; omega) ?_; intro v' w3 hown' hgrow _ hat)
              go_roundw
              case rel =>
                obtain ⟨k1, k2, k3⟩ := app_keep hgrow hne.out hat hbl
                refine ⟨k + 1, by omega, by go_num, ?_, k1, fun j hj => (k2 _).trans (hcb.out j hj), k3, (hb.alloc (by omega) _).grown hgrow (by simp; omega) (fun j hj => (ho.out.lt j hj).1)⟩
                rw [hs.out]; simpa using hown'
              case measure => simp [intOf]; omega
      · obtain rfl : k = 6 := by omega
        have ho := Lib.hid ho
        go_wp2_with fail
        go_ret2
        exact ⟨_, by rw [hc.out]; rfl, by rw [hr.out]; exact ho.out, hb⟩
  · have hr := Lib.hid (show dependsR ns = [] by simp [dependsR, h0])
    have hne := codeP_ne h0
    clear h0
    go_enter Try.func30, Try.ntmps30
    go_wp2_with fail
    refine (hcode.out _).mono ?_
    rintro e w1 ⟨rfl, b1⟩
    go_wp2_with fail
    go_ret2
    exact ⟨_, rfl, by rw [hr.out]; exact World.ownsRow_nil _ _ _ _, b1⟩
end Go.Proofs.Ytngaadpmmlabmaa
