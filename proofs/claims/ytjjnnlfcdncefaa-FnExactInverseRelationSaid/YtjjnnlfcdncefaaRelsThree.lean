/- Walks of InverseRelation, of the program and of the reference. -/
import Derived.Test.YtjjnnlfcdncefaaRelsTwo
import Derived.Deep.RegionWith
namespace Go.Proofs.Ytjjnnlfcdncefaa
open Go.RowKit

theorem own_setI {w : World} {B : Nat} {e : TypeId} {g n cap k : Nat} {zs : List Int} {x : Int} (h : w.ownsRow B e 1 (.slice (some ⟨g, 0, none⟩) n cap) n (zs.map (Value.int .i64))) :
    (w.setCell ⟨g, k, none⟩ (.int .i64 x)).ownsRow B e 1 (.slice (some ⟨g, 0, none⟩) n cap) n ((zs.set k x).map (Value.int .i64)) := by
  have := (h.stored k (.int .i64 x)).1
  rw [← List.map_set] at this
  exact this

theorem cast_lt30 {a k : Nat} (h : a < 2 ^ k) (hk : k ≤ 30) : (0 : Int) ≤ (a : Int) ∧ (a : Int) < 1073741824 := by
  have : (2 : Nat) ^ k ≤ 2 ^ 30 := Nat.pow_le_pow_right (by omega) hk
  omega

set_option maxRecDepth 100000 in
set_option maxHeartbeats 2000000 in
theorem inverse_any (v : Value) (xs : List Int) (w : World) (h : Ints w v xs) (hl : xs.length ≤ 30) (hx : ∀ (i : Nat) (x : Int), xs[i]? = some x → 0 ≤ x ∧ x < 1073741824 ∧ x.toNat < 2 ^ xs.length) :
    Calls Try.prog 63 #[v] w fun e w' => ∃ v', e = .returned v' ∧ w'.ownsRow w.heap.size 2 1 v' xs.length ((invR xs).map (Value.int .i64)) ∧ Below w.heap.size w w' := by
  have hx := Lib.hid hx
  obtain ⟨i0, hi, hz0, hz1, hz2⟩ := info_parts info_i64
  obtain ⟨hmx, a, c, b, o, rfl, hc, hz, hcell⟩ := h.opened
  clear h
  generalize hn : xs.length = n at *
  have hn := Lib.hid hn
  rcases hz with hz | ⟨hz, rfl⟩
  all_goals
    go_enter Try.func63, Try.ntmps63
    go_wp2_with (first | (at_make; refine wpList_make_full _ rfl _ _ 22 rfl w.heap.size 2 i0 (.int .i64 0) 1 Try.underlying22 hi hz0 hz1 _ _ _ _ n rfl rfl rfl rfl (by rw [hz2]; omega) hmx (Nat.le_refl _) ?_; intro w1 hown hgr; clear hi hz0 hz1 hz2) | go_in)
    rw [made_ints, ← mapN_zero] at hown
    have hb1 := below_of_grownBy hgr (Nat.le_refl _) (by simp)
    clear hgr
    go_loopw [13] (fun i wr => ∃ k : Nat, k ≤ n ∧ i = .int .i64 k ∧ wr.ownsRow w.heap.size 2 1 (.slice (some ⟨w.heap.size, 0, none⟩) n n) n ((mapN n fun i => col xs i k).map (Value.int .i64)) ∧ Below w.heap.size w wr) (fun i _ => n - (intOf i).toNat)
    case atStart => exact ⟨0, Nat.zero_le _, rfl, hown, hb1⟩
    case round =>
      clear hown hb1
      obtain ⟨k, hk, rfl, ho, hb⟩ := hrel
      by_cases hlt : k < n
      · all_goals try (exfalso; omega)
        all_goals
          obtain ⟨x, hxk, hcx⟩ := hcell.out k hlt
          have hcx := (hb.cell (p := ⟨b, o + k, none⟩) (World.block_lt_of_cell? w _ hcx)).trans hcx
          obtain ⟨x0, x1, x2⟩ := hx.out k x hxk
          have hxk := Lib.hid hxk
          have hml := Lib.hid (fun j i => mem_lt x2 (by omega) (j := j) (i := i))
          have hend := Lib.hid (mapN_congr (n := n) (fun i _ => invAt_end hxk.out x2 (by omega) i))
          have hmz : (mem x).length ≤ 63 := mem_length_le x
          have ho := Lib.hid ho
          clear x2
          go_wp2_with fail
          refine (membersOf_any x x0 (by omega) _).mono ?_
          rintro e w2 ⟨v2, rfl, ho2, b2⟩
          have hb2 := hb.trans (b2.mono hb.size)
          have ho3 := own_below ho.out b2 (Nat.le_refl _)
          have ho2l := own_lt ho2
          obtain ⟨_, a2, c2, bb2, o2, rfl, hc2, hz2', hcell2⟩ := (ints_of_own ho2).opened
          have hge : Hid (∀ t, t < (mem x).length → w.heap.size ≠ bb2) := by
            intro t ht
            rcases hz2' with hz2' | ⟨_, rfl⟩
            · omega
            · rcases ho2.2 with ⟨h1, _⟩ | ⟨g, cap, cur, h1, hB, _⟩
              · cases h1
              · have : bb2 = g := by injection h1 with h2; injection h2 with h3; injection h3
                have h5 := (ho3.lt w.heap.size rfl)
                have h6 := (ho.out.lt w.heap.size rfl)
                omega
          clear ho2 ho2l
          rcases hz2' with hz2' | ⟨hz2', rfl⟩
          · have hme : mem x = [] := List.eq_nil_of_length_eq_zero (by omega)
            have hend2 := Lib.hid (show (mapN n fun i => col xs i k) = mapN n fun i => col xs i (k + 1) by rw [← hend.out, hme]; apply mapN_congr; intro i _; simp [invAt])
            have ho3 := Lib.hid ho3
            clear hme
            go_wp2_with fail
            refine wp_loop_rounds 1 ?_
            rw [rounds_succ]
            go_wp2_with fail
            go_roundw
            case rel => exact ⟨k + 1, by omega, by go_num, by rw [← hend2.out]; exact ho3.out, hb2⟩
            case measure => simp [intOf]; omega
          · go_wp2_with fail
            go_loopw [21] (fun i wr2 => ∃ t : Nat, t ≤ (mem x).length ∧ i = .int .i64 t ∧ wr2.ownsRow w.heap.size 2 1 (.slice (some ⟨w.heap.size, 0, none⟩) n n) n ((mapN n (invAt xs k ((mem x).take t))).map (Value.int .i64)) ∧ Below w.heap.size w wr2 ∧ Hid (∀ b o, b ≠ w.heap.size → wr2.cell? ⟨b, o, none⟩ = w2.cell? ⟨b, o, none⟩)) (fun i _ => (mem x).length - (intOf i).toNat)
            case atStart =>
              refine ⟨0, Nat.zero_le _, rfl, ?_, hb2, fun _ _ _ => rfl⟩
              have : mapN n (invAt xs k ((mem x).take 0)) = mapN n fun i => col xs i k := mapN_congr fun i _ => by simp [invAt]
              rw [this]; exact ho3
            case round =>
              obtain ⟨t, ht, rfl, ho4, hb4, hsame⟩ := hrel
              by_cases hlt2 : t < (mem x).length
              · obtain ⟨j, hj, hcj⟩ := hcell2.out t hlt2
                obtain ⟨j0, j1, _⟩ := hml.out t j hj
                obtain ⟨J, rfl⟩ := Int.eq_ofNat_of_zero_le j0
                have hJ : J < n := by have := hn.out; omega
                have hcj := (hsame.out bb2 (o2 + t) (fun h => hge.out t hlt2 h.symm)).trans hcj
                obtain ⟨⟨z, hzz, hcz⟩, hfz⟩ := own_cell ho4 hJ
                rw [mapN_get hJ] at hzz
                obtain rfl := Option.some.inj hzz
                obtain ⟨z0, z1⟩ := cast_lt30 (invAt_lt xs k ((mem x).take t) J) (by omega)
                have hs := or30_pow _ k z0 z1 (by omega)
                rw [Int.toNat_natCast, ← invAt_step hj] at hs
                have hset := Lib.hid (mapN_set (n := n) (f := invAt xs k ((mem x).take t)) (g := invAt xs k ((mem x).take (t + 1))) (i := J) (fun i _ hi => invAt_other hj hi))
                have hs1 := Lib.hid hs.1
                obtain ⟨hp1, hp2⟩ := pow_nat_bounds k (by omega)
                generalize ((invAt xs k ((mem x).take t) J : Nat) : Int) = z at *
                have ho4 := Lib.hid ho4
                clear hs hj hzz
                go_wp2
                go_region
                all_goals
                  go_wp2
                  go_roundw
                  case rel =>
                    refine ⟨t + 1, by omega, by go_num, ?_, Below.drew (hb4.setCell (Nat.le_refl _) _), fun b o hne => ?_⟩
                    · rw [← hset.out, ← hs1.out]; exact own_setI ho4.out
                    · refine Eq.trans ?_ (hsame.out b o hne)
                      have hne2 : (⟨w.heap.size, J, none⟩ : Addr) ≠ ⟨b, o, none⟩ := by intro h; injection h with h1; exact hne h1.symm
                      first | exact World.cell?_setCell_other _ hne2 | exact World.cell?_setCell_other _ _ hne2 | exact World.cell?_setCell_other _ _ _ hne2 | exact World.cell?_setCell_other _ _ _ _ hne2
                  case measure => simp [intOf]; omega
              · obtain rfl : t = (mem x).length := by omega
                have ho4 := Lib.hid ho4
                go_wp2
                go_roundw
                case rel =>
                  refine ⟨k + 1, by omega, by go_num, ?_, hb4⟩
                  have := ho4.out
                  rw [List.take_length, hend.out] at this
                  exact this
                case measure => simp [intOf]; omega
      · obtain rfl : k = n := by omega
        have ho := Lib.hid ho
        go_wp2_with fail
        go_ret
        refine ⟨_, rfl, ?_, hb⟩
        have := ho.out
        unfold invR
        rw [hn.out]
        exact this

/-- The reference's row, once rows below i are whole and row i holds the first j. -/
def invRow (xs : List Int) (n i j : Nat) (r : Nat) : Nat := if r < i then col xs r n else if r = i then col xs i j else 0
theorem invRow_lt (xs : List Int) (n i j r : Nat) (hj : j ≤ n) : invRow xs n i j r < 2 ^ n := by
  have h1 := col_lt xs r n
  have h2 := col_lt xs i j
  have h3 : (2 : Nat) ^ j ≤ 2 ^ n := Nat.pow_le_pow_right (by omega) hj
  have h4 : 0 < (2 : Nat) ^ n := Nat.pow_pos (by omega)
  unfold invRow
  split
  · exact h1
  · split <;> omega
theorem invRow_self (xs : List Int) (n i j : Nat) : invRow xs n i j i = col xs i j := by simp [invRow]
theorem invRow_other {xs : List Int} {n i j j' r : Nat} (h : r ≠ i) : invRow xs n i j r = invRow xs n i j' r := by simp [invRow, h]
theorem invRow_end (xs : List Int) (n i r : Nat) : invRow xs n i n r = invRow xs n (i + 1) 0 r := by
  unfold invRow
  by_cases h : r < i
  · rw [if_pos h, if_pos (by omega)]
  · rw [if_neg h]
    by_cases h2 : r = i
    · subst h2; rw [if_pos rfl, if_pos (by omega)]
    · rw [if_neg h2, if_neg (by omega)]
      by_cases h3 : r = i + 1
      · rw [if_pos h3]; rfl
      · rw [if_neg h3]

set_option maxRecDepth 100000 in
set_option maxHeartbeats 2000000 in
theorem l01Inverse_any (v : Value) (xs : List Int) (w : World) (h : Ints w v xs) (hl : xs.length ≤ 30) (hx : ∀ (i : Nat) (x : Int), xs[i]? = some x → 0 ≤ x ∧ x < 1073741824 ∧ x.toNat < 2 ^ xs.length) :
    Calls Try.prog 62 #[v] w fun e w' => ∃ v', e = .returned v' ∧ w'.ownsRow w.heap.size 2 1 v' xs.length ((invR xs).map (Value.int .i64)) ∧ Below w.heap.size w w' := by
  have hx := Lib.hid hx
  obtain ⟨i0, hi, hz0, hz1, hz2⟩ := info_parts info_i64
  obtain ⟨hmx, a, c, b, o, rfl, hc, hz, hcell⟩ := h.opened
  clear h
  generalize hn : xs.length = n at *
  have hn := Lib.hid hn
  rcases hz with hz | ⟨hz, rfl⟩
  all_goals
    go_enter Try.func62, Try.ntmps62
    go_wp2_with (first | (at_make; refine wpList_make_full _ rfl _ _ 22 rfl w.heap.size 2 i0 (.int .i64 0) 1 Try.underlying22 hi hz0 hz1 _ _ _ _ n rfl rfl rfl rfl (by rw [hz2]; omega) hmx (Nat.le_refl _) ?_; intro w1 hown hgr; clear hi hz0 hz1 hz2) | go_in)
    rw [made_ints, ← mapN_zero] at hown
    have hb1 := below_of_grownBy hgr (Nat.le_refl _) (by simp)
    clear hgr
    go_loopw [4] (fun i wr => ∃ k : Nat, k ≤ n ∧ i = .int .i64 k ∧ wr.ownsRow w.heap.size 2 1 (.slice (some ⟨w.heap.size, 0, none⟩) n n) n ((mapN n (invRow xs n k 0)).map (Value.int .i64)) ∧ Below w.heap.size w wr) (fun i _ => n - (intOf i).toNat)
    case atStart =>
      refine ⟨0, Nat.zero_le _, rfl, ?_, hb1⟩
      have : mapN n (invRow xs n 0 0) = mapN n fun _ => 0 := mapN_congr fun i _ => by unfold invRow; rw [if_neg (by omega)]; split <;> rfl
      rw [this]; exact hown
    case round =>
      clear hown hb1
      obtain ⟨k, hk, rfl, ho, hb⟩ := hrel
      by_cases hlt : k < n
      · all_goals try (exfalso; omega)
        all_goals
          go_wp2_with fail
          go_loopw [5] (fun i wr2 => ∃ t : Nat, t ≤ n ∧ i = .int .i64 t ∧ wr2.ownsRow w.heap.size 2 1 (.slice (some ⟨w.heap.size, 0, none⟩) n n) n ((mapN n (invRow xs n k t)).map (Value.int .i64)) ∧ Below w.heap.size w wr2) (fun i _ => n - (intOf i).toNat)
          case atStart => exact ⟨0, Nat.zero_le _, rfl, ho, hb⟩
          case round =>
            clear ho hb
            obtain ⟨t, ht, rfl, ho, hb⟩ := hrel
            by_cases hlt2 : t < n
            · obtain ⟨x, hxk, hcx⟩ := hcell.out t hlt2
              have hcx := (hb.cell (p := ⟨b, o + t, none⟩) (World.block_lt_of_cell? w _ hcx)).trans hcx
              obtain ⟨x0, x1, x2⟩ := hx.out t x hxk
              cases hh : hasB x k
              · have hst := Lib.hid (mapN_congr (n := n) (f := invRow xs n k t) (g := invRow xs n k (t + 1)) (fun i _ => by
                  by_cases h : i = k
                  · subst h; rw [invRow_self, invRow_self, col_no hxk hh]
                  · exact invRow_other h))
                have hhh := Lib.hid hh
                have ho := Lib.hid ho
                clear hh hxk x2
                go_wp2_with fail
                refine (l01Bit_any _ _ x0 (by omega) (by omega) (by omega) _).mono ?_
                rintro e w' ⟨rfl, rfl⟩
                rw [hhh.out]
                go_wp2_with fail
                go_roundw
                case rel => exact ⟨t + 1, by omega, by go_num, by rw [← hst.out]; exact ho.out, hb⟩
                case measure => simp [intOf]; omega
              · have hhh := Lib.hid hh
                obtain ⟨⟨z, hzz, hcz⟩, hfz⟩ := own_cell ho hlt
                rw [mapN_get hlt] at hzz
                obtain rfl := Option.some.inj hzz
                obtain ⟨z0, z1⟩ := cast_lt30 (invRow_lt xs n k t k (by omega)) (by omega)
                have hs := or30_pow _ t z0 z1 (by omega)
                rw [Int.toNat_natCast, invRow_self, ← col_yes hxk hh] at hs
                have hset := Lib.hid (mapN_set (n := n) (f := invRow xs n k t) (g := invRow xs n k (t + 1)) (i := k) (fun i _ hi => invRow_other hi))
                rw [invRow_self] at z0 z1 hcz hzz
                generalize ((col xs k t : Nat) : Int) = z at *
                have hs1 := Lib.hid hs.1
                have ho := Lib.hid ho
                clear hs hh hxk x2 hzz
                go_wp2_with fail
                refine (l01Bit_any _ _ x0 (by omega) (by omega) (by omega) _).mono ?_
                rintro e w' ⟨rfl, rfl⟩
                rw [hhh.out]
                go_wp2_with fail
                go_region_with (go_at_call 81; refine (l01One_any _ (by omega) (by omega) _).mono ?_; rintro e w' ⟨rfl, rfl⟩)
                all_goals
                  go_wp2
                  go_roundw
                  case rel =>
                    refine ⟨t + 1, by omega, by go_num, ?_, Below.drew (hb.setCell (Nat.le_refl _) _)⟩
                    rw [← hset.out, invRow_self, ← hs1.out]; exact own_setI ho.out
                  case measure => simp [intOf]; omega
            · obtain rfl : t = n := by omega
              have hst := Lib.hid (mapN_congr (n := t) (f := invRow xs t k t) (g := invRow xs t (k + 1) 0) (fun i _ => invRow_end xs t k i))
              have ho := Lib.hid ho
              go_wp2
              go_roundw
              case rel => exact ⟨k + 1, by omega, by go_num, by rw [← hst.out]; exact ho.out, hb⟩
              case measure => simp [intOf]; omega
      · obtain rfl : k = n := by omega
        have ho := Lib.hid ho
        go_wp2_with fail
        go_ret
        refine ⟨_, rfl, ?_, hb⟩
        have := ho.out
        unfold invR
        rw [hn.out]
        have he : mapN k (invRow xs k k 0) = mapN k fun i => col xs i k := mapN_congr fun i hi => by unfold invRow; rw [if_pos hi]
        rw [he] at this
        exact this

def invRR (xs : List Int) : List Int := if relCode xs = 0 then invR xs else []
theorem invR_length (xs : List Int) : (invR xs).length = xs.length := mapN_length _ _
theorem invRR_length (xs : List Int) : (invRR xs).length ≤ 1000000 := by
  unfold invRR
  split
  · rename_i h
    rw [invR_length]
    have := (relCode_ok h).1
    omega
  · simp

theorem implInverseRelation_any (v : Value) (xs : List Int) (w : World) (h : Ints w v xs) :
    Calls Try.prog 36 #[v] w fun e w' => ∃ v', e = .returned (.tuple #[v', .int .i64 (relCode xs)]) ∧ w'.ownsRow w.heap.size 2 1 v' (invRR xs).length ((invRR xs).map (Value.int .i64)) ∧ Below w.heap.size w w' := by
  have hq := h
  obtain ⟨hm, a, c, b, o, rfl, hc, h0, hcell⟩ := h.opened
  clear h h0 hcell hm
  have hv := Lib.hid hq
  have hrc := Lib.hid (fun t => relationCode_one w a c xs t hq)
  clear hq
  by_cases h0 : relCode xs = 0
  · obtain ⟨hl, hr⟩ := relCode_ok h0
    have hxb := Lib.hid (rel_bounds hl hr)
    have hf := Lib.hid (show invRR xs = invR xs ∧ (invR xs).length = xs.length from ⟨by simp [invRR, h0], invR_length xs⟩)
    have hz := Lib.hid h0
    clear h0 hr
    go_enter Try.func36, Try.ntmps36
    go_wp2_with fail
    refine (hrc.out _).mono ?_
    rintro e w1 ⟨rfl, b1⟩
    rw [hz.out]
    go_wp2_with fail
    refine (inverse_any _ xs _ (hv.out.below b1 (Nat.le_refl _)) hl hxb.out).mono ?_
    rintro e w2 ⟨v2, rfl, ho, b2⟩
    have ho := Lib.hid (own_mono ho b1.size)
    go_wp2_with fail
    go_ret2
    exact ⟨_, by rw [hz.out]; rfl, by rw [hf.out.1, hf.out.2]; exact ho.out, b1.trans (b2.mono b1.size)⟩
  · have hf := Lib.hid (show invRR xs = [] by simp [invRR, h0])
    have hne := relCode_ne h0
    clear h0
    go_enter Try.func36, Try.ntmps36
    go_wp2_with fail
    refine (hrc.out _).mono ?_
    rintro e w1 ⟨rfl, b1⟩
    go_wp2_with fail
    go_ret2
    exact ⟨_, rfl, by rw [hf.out]; exact World.ownsRow_nil _ _ _ _, b1⟩

theorem specInverseRelation_any (v : Value) (xs : List Int) (w : World) (h : Ints w v xs) :
    Calls Try.prog 35 #[v] w fun e w' => ∃ v', e = .returned (.tuple #[v', .int .i64 (relCode xs)]) ∧ w'.ownsRow w.heap.size 2 1 v' (invRR xs).length ((invRR xs).map (Value.int .i64)) ∧ Below w.heap.size w w' := by
  have hv := Lib.hid h
  have hrc := Lib.hid (l01Relation_any _ xs w h)
  clear h
  by_cases h0 : relCode xs = 0
  · obtain ⟨hl, hr⟩ := relCode_ok h0
    have hxb := Lib.hid (rel_bounds hl hr)
    have hf := Lib.hid (show invRR xs = invR xs ∧ (invR xs).length = xs.length from ⟨by simp [invRR, h0], invR_length xs⟩)
    have hz := Lib.hid h0
    clear h0 hr
    go_enter Try.func35, Try.ntmps35
    go_wp2_with fail
    refine hrc.out.mono ?_
    rintro e w1 ⟨rfl, b1⟩
    rw [hz.out]
    go_wp2_with fail
    refine (l01Inverse_any _ xs _ (hv.out.below b1 (Nat.le_refl _)) hl hxb.out).mono ?_
    rintro e w2 ⟨v2, rfl, ho, b2⟩
    have ho := Lib.hid (own_mono ho b1.size)
    go_wp2_with fail
    go_ret2
    exact ⟨_, by rw [hz.out]; rfl, by rw [hf.out.1, hf.out.2]; exact ho.out, b1.trans (b2.mono b1.size)⟩
  · have hf := Lib.hid (show invRR xs = [] by simp [invRR, h0])
    have hne := relCode_ne h0
    clear h0
    go_enter Try.func35, Try.ntmps35
    go_wp2_with fail
    refine hrc.out.mono ?_
    rintro e w1 ⟨rfl, b1⟩
    go_wp2_with fail
    go_ret2
    exact ⟨_, rfl, by rw [hf.out]; exact World.ownsRow_nil _ _ _ _, b1⟩
end Go.Proofs.Ytjjnnlfcdncefaa
