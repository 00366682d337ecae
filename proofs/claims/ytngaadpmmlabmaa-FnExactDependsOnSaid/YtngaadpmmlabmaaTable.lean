/- Walks of TruthTable, of the program and of the reference. -/
import Derived.Test.YtngaadpmmlabmaaClassThree
import Derived.Maps.AppendAt
namespace Go.Proofs.Ytngaadpmmlabmaa
open Go.RowKit Go.Deep

/-- What an append leaves of another row. -/
theorem app_keep {wr w3 : World} {cs : Array Value} {t : TypeId} {v v' : Value} {bb : Nat} (hgrow : (wr.alloc (.cells cs t)).grownBy w3 v.ownBlock) (hne : ∀ j, v.ownBlock = some j → j ≠ bb)
    (hat : v'.ownBlock = v.ownBlock ∨ v'.ownBlock = some (wr.alloc (.cells cs t)).heap.size) (hbl : bb < wr.heap.size) :
    Hid (∀ j, v'.ownBlock = some j → j ≠ bb) ∧ (∀ o, w3.cell? ⟨bb, o, none⟩ = wr.cell? ⟨bb, o, none⟩) ∧ bb < w3.heap.size := by
  have hs := hgrow.size
  simp at hs
  refine ⟨fun j hj => ?_, fun o => ?_, by omega⟩
  · rcases hat with h | h
    · exact hne j (h ▸ hj)
    · rw [h] at hj; simp at hj; omega
  · have h1 : w3.cell? ⟨bb, o, none⟩ = (wr.alloc (.cells cs t)).cell? ⟨bb, o, none⟩ := hgrow.cell_far _ (by simp; omega) (fun h => hne bb h.symm rfl)
    exact h1.trans (((Below.refl wr.heap.size wr).alloc (Nat.le_refl _) _).cell (p := ⟨bb, o, none⟩) hbl)

def oneI (b : Bool) : Int := if b then 1 else 0
theorem oneI_bounds (b : Bool) : 0 ≤ oneI b ∧ oneI b ≤ 1 := by cases b <;> simp [oneI]
def tabI (p : Nat → Bool) (n : Nat) : List Int := (List.range n).map fun i => oneI (p i)
theorem tabI_length (p : Nat → Bool) (n : Nat) : (tabI p n).length = n := by simp [tabI]
theorem tabI_succ (p : Nat → Bool) (n : Nat) : tabI p (n + 1) = tabI p n ++ [oneI (p n)] := by simp [tabI, List.range_succ]

theorem bit_of_rows (t : Tr) (k : Nat) (hk : k < 64) : bits BinOp.and IntKind.u64 (rowsT t / 2 ^ k) 1 = oneI (valT t k) := by
  unfold rowsT
  have h := rows64_lt (valT t)
  have e : (((rowsOf (valT t) 64 : Nat) : Int) / 2 ^ k) = ((rowsOf (valT t) 64 / 2 ^ k : Nat) : Int) := by simp
  have h2 : rowsOf (valT t) 64 / 2 ^ k ≤ rowsOf (valT t) 64 := Nat.div_le_self _ _
  rw [e, show (1 : Int) = ((1 : Nat) : Int) from rfl, u64_and_nat _ _ (by omega) (by omega), Nat.and_one_is_mod]
  have h3 := rowsOf_bit (valT t) 64 k
  rw [Nat.testBit_eq_decide_div_mod_eq] at h3
  simp only [hk, decide_true, Bool.true_and] at h3
  rw [← h3]
  unfold oneI
  rcases Nat.mod_two_eq_zero_or_one (rowsOf (valT t) 64 / 2 ^ k) with h4 | h4 <;> rw [h4] <;> simp

def tableR (ns : List Nd) : List Int := if codeP [ns] = 0 then tabI (valT (treeOf ns)) 64 else []
theorem tableR_length (ns : List Nd) : (tableR ns).length ≤ 1000000 := by
  unfold tableR
  split
  · rw [tabI_length]; omega
  · simp

set_option maxHeartbeats 800000 in
theorem implTruthTable_any (v : Value) (ns : List Nd) (w : World) (h : Nodes w v ns) :
    Calls Try.prog 25 #[v] w fun e w' => ∃ v', e = .returned (.tuple #[v', .int .i64 (codeP [ns])]) ∧ w'.ownsRow w.heap.size 2 1 v' (tableR ns).length ((tableR ns).map (Value.int .i64)) ∧ Below w.heap.size w w' := by
  obtain ⟨i0, hi, hz0, hz1, hz2⟩ := info_parts info_i64
  obtain ⟨a, c, rfl⟩ := h.shape
  have hv := Lib.hid h
  have hcode := Lib.hid (fun t => plainCode_one w a _ c ns t h)
  clear h
  generalize ns.length = n at *
  by_cases h0 : codeP [ns] = 0
  · obtain ⟨hf, hp⟩ := codeP_one h0
    obtain ⟨h1, h2, h3, h4⟩ := plain_tree hf hp
    have hmod := Lib.hid (fun w1 (hb : Below w.heap.size w w1) => modelsOf_any (treeOf ns) _ w1 h1 h3 (by rw [h2]; exact hv.out.below hb (Nat.le_refl _)) (by rw [h2]; omega))
    have hr := Lib.hid (show tableR ns = tabI (valT (treeOf ns)) 64 ∧ (tabI (valT (treeOf ns)) 64).length = 64 from ⟨by simp [tableR, h0], tabI_length _ _⟩)
    have hbit := Lib.hid (bit_of_rows (treeOf ns))
    have hc := Lib.hid h0
    clear h0 hf hp h1 h2 h3 h4
    generalize rowsT (treeOf ns) = M at *
    generalize valT (treeOf ns) = p at *
    go_enter Try.func25, Try.ntmps25
    go_wp2_with fail
    refine (hcode.out _).mono ?_
    rintro e w1 ⟨rfl, b1⟩
    rw [hc.out]
    go_wp2_with fail
    refine (hmod.out _ b1).mono ?_
    rintro e w2 ⟨rfl, rfl⟩
    go_wp2_with fail
    go_loopw [6, 16] (fun u i wr => ∃ k : Nat, k ≤ 64 ∧ i = .int .i64 k ∧ wr.ownsRow w.heap.size 2 1 u k ((tabI p k).map (Value.int .i64)) ∧ Below w.heap.size w wr) (fun _ i _ => 64 - (intOf i).toNat)
    case atStart => exact ⟨0, by omega, rfl, by rw [show tabI p 0 = [] from rfl]; exact World.ownsRow_nil _ _ _ _, b1⟩
    case round =>
      obtain ⟨k, hk, rfl, ho, hb⟩ := hrel
      by_cases hlt : k < 64
      · have hs := Lib.hid (tabI_succ p k)
        have hbk := hbit.out k hlt
        obtain ⟨z0, z1⟩ := oneI_bounds (p k)
        generalize oneI (p k) = z at *
        have hsz := hb.size
        have ho := Lib.hid ho
        go_wp2_with (at_builtin; refine wpList_append_own _ rfl _ _ 42 rfl w.heap.size 2 i0 (.int .i64 0) 1 8 Try.underlying42 hi hz0 hz1 hz2 rfl (by decide) _ _ _ rfl (ho.out.alloc _) ⟨wr.heap.size, 0, none⟩ 1 1 [.int .i64 z] rfl rfl (cell_one_new _ _ _) (ints_oneCell .i64 [z]) (by unfold maxLen; omega) (by omega) (by simp; omega) ?_; intro v' w1 hown' hgrow _)
        go_roundw
        case rel =>
          refine ⟨k + 1, by omega, by go_num, ?_, ?_⟩
          · rw [hs.out]; simpa using hown'
          · exact (hb.alloc (by omega) _).grown hgrow (by simp; omega) (fun j hj => (ho.out.lt j hj).1)
        case measure => simp [intOf]; omega
      · obtain rfl : k = 64 := by omega
        have ho := Lib.hid ho
        go_wp2_with fail
        go_ret2
        exact ⟨_, by rw [hc.out]; rfl, by rw [hr.out.1, hr.out.2]; exact ho.out, hb⟩
  · have hr := Lib.hid (show tableR ns = [] by simp [tableR, h0])
    have hne := codeP_ne h0
    clear h0
    go_enter Try.func25, Try.ntmps25
    go_wp2_with fail
    refine (hcode.out _).mono ?_
    rintro e w1 ⟨rfl, b1⟩
    go_wp2_with fail
    go_ret2
    exact ⟨_, rfl, by rw [hr.out]; exact World.ownsRow_nil _ _ _ _, b1⟩

set_option maxHeartbeats 1600000 in
theorem specTruthTable_any (v : Value) (ns : List Nd) (w : World) (h : Nodes w v ns) :
    Calls Try.prog 24 #[v] w fun e w' => ∃ v', e = .returned (.tuple #[v', .int .i64 (codeP [ns])]) ∧ w'.ownsRow w.heap.size 2 1 v' (tableR ns).length ((tableR ns).map (Value.int .i64)) ∧ Below w.heap.size w w' := by
  obtain ⟨i0, hi, hz0, hz1, hz2⟩ := info_parts info_i64
  obtain ⟨a, c, rfl⟩ := h.shape
  have hv := Lib.hid h
  have hcode := Lib.hid (fun t => l04Code_one w a _ c ns t h)
  clear h
  generalize ns.length = n at *
  by_cases h0 : codeP [ns] = 0
  · obtain ⟨hf, hp⟩ := codeP_one h0
    obtain ⟨h1, h2, h3, h4⟩ := plain_tree hf hp
    have htab := Lib.hid (fun w1 (hb : Below w.heap.size w w1) => l04Table_any (treeOf ns) _ w1 h1 h3 (by rw [h2]; exact hv.out.below hb (Nat.le_refl _)) (by rw [h2]; omega))
    have hr := Lib.hid (show tableR ns = tabI (valT (treeOf ns)) 64 ∧ (tabI (valT (treeOf ns)) 64).length = 64 from ⟨by simp [tableR, h0], tabI_length _ _⟩)
    have hc := Lib.hid h0
    clear h0 hf hp h1 h2 h3 h4
    generalize valT (treeOf ns) = p at *
    have hget := Lib.hid (fun (i : Nat) (hi : i < 64) => tabL_get (p := p) hi)
    go_enter Try.func24, Try.ntmps24
    go_wp2_with fail
    refine (hcode.out _).mono ?_
    rintro e w1 ⟨rfl, b1⟩
    rw [hc.out]
    go_wp2_with fail
    have bA := b1.alloc b1.size (.cells #[] 2)
    have hl0 := Lib.hid (World.ownsRow_lit (e := 2) (base := w.heap.size) (size := 1) w1 #[] 0 b1.size (by simp [maxLen]) rfl)
    refine (htab.out _ bA).mono ?_
    rintro e w2 ⟨v2, rfl, ho2, b2⟩
    have hb2 := bA.trans (b2.mono bA.size)
    have hl0 := Lib.hid (own_below hl0.out b2 (Nat.le_refl _))
    have ho2l := own_lt ho2
    have hs1 := b1.size
    have hs2 := b2.size
    have ho2' := ho2
    obtain ⟨_, a2, cp, bb, oo, rfl, hcp, hz, hcell⟩ := (bools_of_own ho2).opened
    rw [tabL_length] at *
    obtain rfl : a2 = some ⟨bb, oo, none⟩ := by
      rcases hz with hz | hz
      · omega
      · exact hz.2
    clear hz
    have hbb : w1.heap.size < bb ∧ bb < w2.heap.size := by
      have h1 := ho2.lt bb rfl
      simp at h1
      omega
    obtain ⟨hbb1, hbb2⟩ := hbb
    clear ho2 ho2' ho2l
    go_wp2_with fail
    go_loopw [5, 7] (fun u i wr => ∃ k : Nat, k ≤ 64 ∧ i = .int .i64 k ∧ wr.ownsRow w.heap.size 2 1 u k ((tabI p k).map (Value.int .i64)) ∧ Hid (∀ j, u.ownBlock = some j → j ≠ bb) ∧ Hid (∀ j, j < 64 → wr.cell? ⟨bb, oo + j, none⟩ = some (.bool (p j))) ∧ bb < wr.heap.size ∧ Below w.heap.size w wr) (fun _ i _ => 64 - (intOf i).toNat)
    case atStart =>
      refine ⟨0, by omega, rfl, by rw [show tabI p 0 = [] from rfl]; simpa using hl0.out, fun j hj => ?_, fun j hj => ?_, hbb2, hb2⟩
      · simp [Value.ownBlock] at hj; omega
      · obtain ⟨x, hx, hcx⟩ := hcell.out j hj
        rw [hget.out j hj] at hx
        obtain rfl := Option.some.inj hx
        exact hcx
    case round =>
      clear hl0 hb2 bA b2 hcell
      obtain ⟨k, hk, rfl, ho, hne, hcb, hbl, hb⟩ := hrel
      by_cases hlt : k < 64
      · have hs := Lib.hid (tabI_succ p k)
        have hcx := hcb.out k hlt
        have hsz := hb.size
        have ho := Lib.hid ho
        cases hpk : p k
        · rw [hpk] at hcx
          have hz := Lib.hid (show oneI (p k) = 0 by rw [hpk]; rfl)
          clear hpk
          go_wp2_with (at_builtin; refine wpList_append_own_at _ rfl _ _ 42 rfl w.heap.size 2 i0 (.int .i64 0) 1 8 Try.underlying42 hi hz0 hz1 hz2 rfl (by decide) _ _ _ rfl (ho.out.alloc _) ⟨wr.heap.size, 0, none⟩ 1 1 [.int .i64 0] rfl rfl (cell_one_new _ _ _) (ints_oneCell .i64 [0]) (by unfold maxLen; omega) (by omega) (by simp; omega) ?_; intro v' w3 hown' hgrow _ hat)
          go_roundw
          case rel =>
            obtain ⟨k1, k2, k3⟩ := app_keep hgrow hne.out hat hbl
            refine ⟨k + 1, by omega, by go_num, ?_, k1, fun j hj => (k2 _).trans (hcb.out j hj), k3, (hb.alloc (by omega) _).grown hgrow (by simp; omega) (fun j hj => (ho.out.lt j hj).1)⟩
            rw [hs.out, hz.out]; simpa using hown'
          case measure => simp [intOf]; omega
        · rw [hpk] at hcx
          have hz := Lib.hid (show oneI (p k) = 1 by rw [hpk]; rfl)
          clear hpk
          go_wp2_with (at_builtin; refine wpList_append_own_at _ rfl _ _ 42 rfl w.heap.size 2 i0 (.int .i64 0) 1 8 Try.underlying42 hi hz0 hz1 hz2 rfl (by decide) _ _ _ rfl (ho.out.alloc _) ⟨wr.heap.size, 0, none⟩ 1 1 [.int .i64 1] rfl rfl (cell_one_new _ _ _) (ints_oneCell .i64 [1]) (by unfold maxLen; omega) (by omega) (by simp; omega) ?_; intro v' w3 hown' hgrow _ hat)
          go_roundw
          case rel =>
            obtain ⟨k1, k2, k3⟩ := app_keep hgrow hne.out hat hbl
            refine ⟨k + 1, by omega, by go_num, ?_, k1, fun j hj => (k2 _).trans (hcb.out j hj), k3, (hb.alloc (by omega) _).grown hgrow (by simp; omega) (fun j hj => (ho.out.lt j hj).1)⟩
            rw [hs.out, hz.out]; simpa using hown'
          case measure => simp [intOf]; omega
      · obtain rfl : k = 64 := by omega
        have ho := Lib.hid ho
        go_wp2_with fail
        go_ret2
        exact ⟨_, by rw [hc.out]; rfl, by rw [hr.out.1, hr.out.2]; exact ho.out, hb⟩
  · have hr := Lib.hid (show tableR ns = [] by simp [tableR, h0])
    have hne := codeP_ne h0
    clear h0
    go_enter Try.func24, Try.ntmps24
    go_wp2_with fail
    refine (hcode.out _).mono ?_
    rintro e w1 ⟨rfl, b1⟩
    go_wp2_with fail
    go_ret2
    exact ⟨_, rfl, by rw [hr.out]; exact World.ownsRow_nil _ _ _ _, b1⟩
end Go.Proofs.Ytngaadpmmlabmaa
