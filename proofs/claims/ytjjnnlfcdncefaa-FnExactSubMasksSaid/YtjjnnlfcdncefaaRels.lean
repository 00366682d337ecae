/- Walks of the functions on relations that hand back a number: the error codes, images and boxes, of the program and of the reference. -/
import Derived.Test.YtjjnnlfcdncefaaRelMath
namespace Go.Proofs.Ytjjnnlfcdncefaa
open Go.RowKit

set_option maxHeartbeats 800000 in
/-- relationCode at one list, in the world in which the list of lists was just made. -/
theorem relationCode_one (w : World) (a : Option Addr) (c : Nat) (xs : List Int) (t : TypeId) (h : Ints w (.slice a xs.length c) xs) :
    Calls Try.prog 56 #[.slice (some ⟨w.heap.size, 0, none⟩) 1 1] (w.alloc (.cells #[.slice a xs.length c] t)) fun e w' => e = .returned (.int .i64 (relCode xs)) ∧ Below w.heap.size w w' := by
  have hm := h.cap
  unfold maxLen at hm
  have hba := (Below.refl w.heap.size w).alloc (Nat.le_refl _) (.cells #[.slice a xs.length c] t)
  have hv := Lib.hid (h.below hba (Nat.le_refl _))
  have hc0 : (w.alloc (.cells #[.slice a xs.length c] t)).cell? ⟨w.heap.size, 0, none⟩ = some (.slice a xs.length c) := by rw [World.cell?_alloc_at _ _ _ _ rfl]; rfl
  have hsz : w.heap.size < (w.alloc (.cells #[.slice a xs.length c] t)).heap.size := by simp
  generalize w.alloc (.cells #[.slice a xs.length c] t) = W at *
  clear h
  rcases relCode_cases xs with ⟨h1, h2⟩ | ⟨h1, h3, h2⟩ | ⟨h1, h3, h2⟩
  · have hf := Lib.hid h2
    clear h2
    go_enter Try.func56, Try.ntmps56
    go_wp2_with fail
    refine wp_loop_rounds 2 ?_
    rw [rounds_succ]
    go_wp2_with fail
    go_ret
    exact ⟨ret_int hf.out.symm, hba⟩
  all_goals
    have hf := Lib.hid h2
    have hq := Lib.hid h3
    clear h2 h3
    go_enter Try.func56, Try.ntmps56
    go_wp2_with fail
    refine wp_loop_rounds 2 ?_
    rw [rounds_succ]
    go_wp2_with fail
    refine (isRelation_any _ xs _ hv.out).mono ?_
    rintro e w1 ⟨rfl, b1⟩
    rw [hq.out]
    go_wp2_with fail
    rw [rounds_succ]
    go_wp2_with fail
    go_ret
    exact ⟨ret_int hf.out.symm, hba.trans (b1.mono hba.size)⟩

theorem maskOn_any (v : Value) (xs : List Int) (m : Int) (w : World) (h : Ints w v xs) :
    Calls Try.prog 60 #[v, .int .i64 m] w fun e w' => e = .returned (.int .i64 (onCode xs m)) ∧ Below w.heap.size w w' := by
  have hq := h
  obtain ⟨hm, a, c, b, o, rfl, hc, h0, hcell⟩ := h.opened
  clear h h0 hcell
  have hv := Lib.hid hq
  have hrc := Lib.hid (fun t => relationCode_one w a c xs t hq)
  unfold maxLen at hm
  clear hq
  by_cases h0 : relCode xs = 0
  · have hf := Lib.hid (show onCode xs m = maskCode xs.length m by simp [onCode, h0])
    have hz := Lib.hid h0
    clear h0
    go_enter Try.func60, Try.ntmps60
    go_wp2_with fail
    refine (hrc.out _).mono ?_
    rintro e w1 ⟨rfl, b1⟩
    rw [hz.out]
    go_wp2_with fail
    refine (sizeI_any _ xs _ (hv.out.below b1 (Nat.le_refl _))).mono ?_
    rintro e w' ⟨rfl, rfl⟩
    go_wp2_with fail
    refine (maskCode_any _ _ _).mono ?_
    rintro e w' ⟨rfl, rfl⟩
    go_wp2_with fail
    go_ret
    exact ⟨ret_int hf.out.symm, b1⟩
  · have hf := Lib.hid (show onCode xs m = relCode xs by simp [onCode, h0])
    have hne : (relCode xs != 0) = true := by simpa using h0
    clear h0
    go_enter Try.func60, Try.ntmps60
    go_wp2_with fail
    refine (hrc.out _).mono ?_
    rintro e w1 ⟨rfl, b1⟩
    go_wp2_with fail
    go_ret
    exact ⟨ret_int hf.out.symm, b1⟩

theorem l01Relation_any (v : Value) (xs : List Int) (w : World) (h : Ints w v xs) :
    Calls Try.prog 54 #[v] w fun e w' => e = .returned (.int .i64 (relCode xs)) ∧ Below w.heap.size w w' := by
  have hq := h
  obtain ⟨hm, a, c, b, o, rfl, hc, h0, hcell⟩ := h.opened
  clear h h0 hcell
  have hv := Lib.hid hq
  unfold maxLen at hm
  clear hq
  rcases relCode_cases xs with ⟨h1, h2⟩ | ⟨h1, h3, h2⟩ | ⟨h1, h3, h2⟩
  · have hf := Lib.hid h2
    clear h2
    go_enter Try.func54, Try.ntmps54
    go_wp2_with fail
    go_ret
    exact ⟨ret_int hf.out.symm, Below.refl _ _⟩
  all_goals
    have hf := Lib.hid h2
    have hq := Lib.hid h3
    clear h2 h3
    go_enter Try.func54, Try.ntmps54
    go_wp2_with fail
    refine (l01Masks_any _ (by omega) (by omega) _ xs _ hv.out).mono ?_
    rintro e w1 ⟨rfl, b1⟩
    have hq2 := Lib.hid (show masksB (xs.length : Int) xs = _ from hq.out)
    rw [hq2.out]
    go_wp2_with fail
    go_ret
    exact ⟨ret_int hf.out.symm, b1⟩

theorem both_in {xs : List Int} {m : Int} (h : relCode xs = 0) : (inR m 0 (full xs.length) = true ∧ onCode xs m = 0) ∨ (inR m 0 (full xs.length) = false ∧ onCode xs m = 1) := by
  unfold onCode
  rw [if_pos h]
  have hl : xs.length ≤ 30 := by rcases relCode_cases xs with h1 | h1 | h1 <;> omega
  unfold maskCode
  have hn : inR (xs.length : Int) 0 30 = true := inR_yes (by omega) (by omega)
  rw [hn, if_pos rfl]
  cases inR m 0 (full xs.length) <;> simp

theorem l01Both_any (v : Value) (xs : List Int) (m : Int) (w : World) (h : Ints w v xs) :
    Calls Try.prog 58 #[v, .int .i64 m] w fun e w' => e = .returned (.int .i64 (onCode xs m)) ∧ Below w.heap.size w w' := by
  have hq := h
  obtain ⟨hm, a, c, b, o, rfl, hc, h0, hcell⟩ := h.opened
  clear h h0 hcell
  have hv := Lib.hid hq
  have hrc := Lib.hid (l01Relation_any _ xs w hq)
  unfold maxLen at hm
  clear hq
  by_cases h0 : relCode xs = 0
  · have hl : xs.length ≤ 30 := by rcases relCode_cases xs with h1 | h1 | h1 <;> omega
    have hz := Lib.hid h0
    rcases both_in (m := m) h0 with ⟨h1, h2⟩ | ⟨h1, h2⟩
    all_goals
      have hf := Lib.hid h2
      have hi := Lib.hid h1
      clear h0 h1 h2
      go_enter Try.func58, Try.ntmps58
      go_wp2_with fail
      refine hrc.out.mono ?_
      rintro e w1 ⟨rfl, b1⟩
      rw [hz.out]
      go_wp2_with fail
      refine (l01Full_any _ (by omega) (by omega) _).mono ?_
      rintro e w' ⟨rfl, rfl⟩
      go_wp2_with fail
      refine (l01In_any _ _ _ _).mono ?_
      rintro e w' ⟨rfl, rfl⟩
      rw [hi.out]
      go_wp2_with fail
      go_ret
      exact ⟨ret_int hf.out.symm, b1⟩
  · have hf := Lib.hid (show onCode xs m = relCode xs by simp [onCode, h0])
    have hne : (relCode xs == 0) = false := by simpa using h0
    clear h0
    go_enter Try.func58, Try.ntmps58
    go_wp2_with fail
    refine hrc.out.mono ?_
    rintro e w1 ⟨rfl, b1⟩
    go_wp2_with fail
    go_ret
    exact ⟨ret_int hf.out.symm, b1⟩

theorem l01Bit_any (m i : Int) (h0 : 0 ≤ m) (h1 : m < 9223372036854775808) (h2 : 0 ≤ i) (h3 : i ≤ 63) (w : World) :
    Calls Try.prog 91 #[.int .i64 m, .int .i64 i] w fun e w' => e = .returned (.bool (hasB m i)) ∧ w = w' := by
  have hp := Lib.hid (has_bit m i h0 h1)
  clear h1
  go_enter Try.func91, Try.ntmps91
  go_wp2
  go_ret
  exact ⟨ret_bool hp.out, rfl⟩

theorem within_any (a b : Int) (h1 : 0 ≤ a) (h2 : a < 9223372036854775808) (h3 : 0 ≤ b) (h4 : b < 9223372036854775808) (w : World) :
    Calls Try.prog 90 #[.int .i64 a, .int .i64 b] w fun e w' => e = .returned (.bool (wiB a b)) ∧ w = w' := by
  have hp := Lib.hid (andNot_wi a b h1 h2 h3 h4)
  clear h2 h4
  go_enter Try.func90, Try.ntmps90
  go_wp2
  go_ret
  exact ⟨ret_bool hp.out, rfl⟩

set_option maxHeartbeats 800000 in
theorem image_any (v : Value) (xs : List Int) (m : Int) (w : World) (h : Ints w v xs) (hl : xs.length ≤ 30) (hx : ∀ (i : Nat) (x : Int), xs[i]? = some x → 0 ≤ x ∧ x < 1073741824 ∧ x.toNat < 2 ^ xs.length) (h0 : 0 ≤ m) (h1 : m < 1073741824) (hm : m.toNat < 2 ^ xs.length) :
    Calls Try.prog 65 #[v, .int .i64 m] w fun e w' => e = .returned (.int .i64 (imgR xs m)) ∧ Below w.heap.size w w' := by
  have hx := Lib.hid hx
  have hv := Lib.hid h
  obtain ⟨_, a, c, b, o, rfl, hc, hz, hcell⟩ := h.opened
  have hml := Lib.hid (fun j i => mem_lt hm (by omega) (j := j) (i := i))
  have hmz : (mem m).length ≤ 63 := mem_length_le m
  have hm0 := Lib.hid (show xs.length ≤ 0 → (mem m).length ≤ 0 from fun hz => by
    have h2 : (membersL m.toNat).length ≤ xs.length := membersL_length m.toNat xs.length hm (by omega)
    show (membersL m.toNat).length ≤ 0
    omega)
  clear h hm
  go_enter Try.func65, Try.ntmps65
  go_wp2_with fail
  refine (membersOf_any m h0 (by omega) _).mono ?_
  rintro e w1 ⟨v1, rfl, ho1, b1⟩
  obtain ⟨_, a1, c1, bb1, o1, rfl, hc1, hz1, hcell1⟩ := (ints_of_own ho1).opened
  clear ho1
  rcases hz1 with hz1 | ⟨hz1, rfl⟩
  · go_wp2_with fail
    refine wp_loop_rounds 1 ?_
    rw [rounds_succ]
    go_wp2_with fail
    go_ret
    refine ⟨ret_int ?_, b1⟩
    have : mem m = [] := List.eq_nil_of_length_eq_zero (by omega)
    unfold imgR
    rw [this]
    rfl
  · obtain rfl : a = some ⟨b, o, none⟩ := by
      rcases hz with hz | ⟨_, hz⟩
      · have := hm0.out hz; omega
      · exact hz
    clear hz hm0
    go_wp2_with fail
    go_loop [5, 11] (fun r j => ∃ (t : Nat) (y : Int), t ≤ (mem m).length ∧ j = .int .i64 t ∧ r = .int .i64 y ∧ 0 ≤ y ∧ y < 1073741824 ∧ Hid (y = (orAt xs ((mem m).take t) : Nat))) (fun _ j => (mem m).length - (intOf j).toNat)
    case atStart => exact ⟨0, 0, Nat.zero_le _, rfl, rfl, by omega, by omega, rfl⟩
    case round =>
      obtain ⟨t, y, ht, rfl, rfl, y0, y1, hy⟩ := hrel
      by_cases hlt : t < (mem m).length
      · obtain ⟨i, hi, hci⟩ := hcell1.out t hlt
        obtain ⟨i0, i1, _⟩ := hml.out t i hi
        obtain ⟨k, rfl⟩ := Int.eq_ofNat_of_zero_le i0
        have hk : k < xs.length := by omega
        obtain ⟨x, hxk, hcx⟩ := hcell.out k hk
        have hcx := (b1.cell (p := ⟨b, o + k, none⟩) (World.block_lt_of_cell? w _ hcx)).trans hcx
        obtain ⟨x0, x1, _⟩ := hx.out k x hxk
        have hs := or30 y x y0 y1 x0 x1
        have hs1 := Lib.hid hs.1
        obtain ⟨hs2, hs3⟩ := hs.2
        have hst := Lib.hid (orAt_take hi (show xs[((k : Nat) : Int).toNat]? = some x by simpa using hxk))
        clear hs hi hxk
        go_wp2_with fail
        go_round
        case rel =>
          refine ⟨t + 1, _, by omega, by go_num, rfl, hs2, hs3, ?_⟩
          show _ = _
          rw [hs1.out, hst.out, hy.out, Int.toNat_natCast]
        case measure => simp [intOf]; omega
      · obtain rfl : t = (mem m).length := by omega
        go_wp2_with fail
        go_ret
        refine ⟨ret_int ?_, b1⟩
        have := hy.out
        rw [List.take_length] at this
        exact this

set_option maxHeartbeats 800000 in
theorem l01Image_any (v : Value) (xs : List Int) (m : Int) (w : World) (h : Ints w v xs) (hl : xs.length ≤ 30) (hx : ∀ (i : Nat) (x : Int), xs[i]? = some x → 0 ≤ x ∧ x < 1073741824 ∧ x.toNat < 2 ^ xs.length) (h0 : 0 ≤ m) (h1 : m < 1073741824) (hm : m.toNat < 2 ^ xs.length) :
    Calls Try.prog 64 #[v, .int .i64 m] w fun e w' => e = .returned (.int .i64 (imgR xs m)) ∧ w = w' := by
  have hx := Lib.hid hx
  have hend := Lib.hid (mem_end hm (by omega))
  obtain ⟨_, a, c, b, o, rfl, hc, hz, hcell⟩ := h.opened
  clear h hm
  rcases hz with hz | ⟨hz, rfl⟩
  all_goals
    go_enter Try.func64, Try.ntmps64
    go_wp2_with fail
    go_loop [5, 6] (fun r j => ∃ (t : Nat) (y : Int), t ≤ xs.length ∧ j = .int .i64 t ∧ r = .int .i64 y ∧ 0 ≤ y ∧ y < 1073741824 ∧ Hid (y = (orAt xs (bitsUpto m.toNat t) : Nat))) (fun _ j => xs.length - (intOf j).toNat)
    case atStart => exact ⟨0, 0, Nat.zero_le _, rfl, rfl, by omega, by omega, rfl⟩
    case round =>
      obtain ⟨t, y, ht, rfl, rfl, y0, y1, hy⟩ := hrel
      by_cases hlt : t < xs.length
      · all_goals try (exfalso; omega)
        all_goals
          obtain ⟨x, hxk, hcx⟩ := hcell.out t hlt
          obtain ⟨x0, x1, _⟩ := hx.out t x hxk
          have hs := or30 y x y0 y1 x0 x1
          have hs1 := Lib.hid hs.1
          obtain ⟨hs2, hs3⟩ := hs.2
          clear hs
          cases hh : hasB m t
          · have hst := Lib.hid (img_no (xs := xs) hh)
            have hhh := Lib.hid hh
            clear hh hxk
            go_wp2_with fail
            refine (l01Bit_any _ _ h0 (by omega) (by omega) (by omega) _).mono ?_
            rintro e w' ⟨rfl, rfl⟩
            rw [hhh.out]
            go_wp2_with fail
            go_round
            case rel =>
              refine ⟨t + 1, y, by omega, by go_num, rfl, y0, y1, ?_⟩
              show _ = _
              rw [hst.out, hy.out]
            case measure => simp [intOf]; omega
          · have hst := Lib.hid (img_yes hh hxk)
            have hhh := Lib.hid hh
            clear hh hxk
            go_wp2_with fail
            refine (l01Bit_any _ _ h0 (by omega) (by omega) (by omega) _).mono ?_
            rintro e w' ⟨rfl, rfl⟩
            rw [hhh.out]
            go_wp2_with fail
            go_round
            case rel =>
              refine ⟨t + 1, _, by omega, by go_num, rfl, hs2, hs3, ?_⟩
              show _ = _
              rw [hs1.out, hst.out, hy.out, Int.toNat_natCast]
            case measure => simp [intOf]; omega
      · obtain rfl : t = xs.length := by omega
        go_wp2_with fail
        go_ret
        refine ⟨ret_int ?_, rfl⟩
        rw [hy.out, hend.out]
        rfl

set_option maxHeartbeats 800000 in
theorem box_any (v : Value) (xs : List Int) (m : Int) (w : World) (h : Ints w v xs) (hl : xs.length ≤ 30) (hx : ∀ (i : Nat) (x : Int), xs[i]? = some x → 0 ≤ x ∧ x < 1073741824 ∧ x.toNat < 2 ^ xs.length) (h0 : 0 ≤ m) (h1 : m < 1073741824) :
    Calls Try.prog 61 #[v, .int .i64 m] w fun e w' => e = .returned (.int .i64 (boxR xs m)) ∧ w = w' := by
  have hx := Lib.hid hx
  obtain ⟨_, a, c, b, o, rfl, hc, hz, hcell⟩ := h.opened
  clear h
  rcases hz with hz | ⟨hz, rfl⟩
  all_goals
    go_enter Try.func61, Try.ntmps61
    go_wp2_with fail
    go_loop [5, 10] (fun r j => ∃ (t : Nat) (y : Int), t ≤ xs.length ∧ j = .int .i64 t ∧ r = .int .i64 y ∧ 0 ≤ y ∧ y < 1073741824 ∧ Hid (y = (boxUpto xs m t : Nat))) (fun _ j => xs.length - (intOf j).toNat)
    case atStart => exact ⟨0, 0, Nat.zero_le _, rfl, rfl, by omega, by omega, rfl⟩
    case round =>
      obtain ⟨t, y, ht, rfl, rfl, y0, y1, hy⟩ := hrel
      by_cases hlt : t < xs.length
      · all_goals try (exfalso; omega)
        all_goals
          obtain ⟨x, hxk, hcx⟩ := hcell.out t hlt
          obtain ⟨x0, x1, _⟩ := hx.out t x hxk
          have hs := or30_pow y t y0 y1 (by omega)
          have hs1 := Lib.hid hs.1
          obtain ⟨hs2, hs3⟩ := hs.2
          obtain ⟨hp1, hp2⟩ := pow_nat_bounds t (by omega)
          clear hs
          cases hh : wiB x m
          · have hst := Lib.hid (box_no hxk hh)
            have hhh := Lib.hid hh
            clear hh hxk
            go_wp2_with fail
            refine (within_any _ _ x0 (by omega) h0 (by omega) _).mono ?_
            rintro e w' ⟨rfl, rfl⟩
            rw [hhh.out]
            go_wp2_with fail
            go_round
            case rel =>
              refine ⟨t + 1, y, by omega, by go_num, rfl, y0, y1, ?_⟩
              show _ = _
              rw [hst.out, hy.out]
            case measure => simp [intOf]; omega
          · have hst := Lib.hid (box_yes hxk hh)
            have hhh := Lib.hid hh
            clear hh hxk
            go_wp2_with fail
            refine (within_any _ _ x0 (by omega) h0 (by omega) _).mono ?_
            rintro e w' ⟨rfl, rfl⟩
            rw [hhh.out]
            go_wp2_with fail
            go_round
            case rel =>
              refine ⟨t + 1, _, by omega, by go_num, rfl, hs2, hs3, ?_⟩
              show _ = _
              rw [hs1.out, hst.out, hy.out, Int.toNat_natCast]
            case measure => simp [intOf]; omega
      · obtain rfl : t = xs.length := by omega
        go_wp2_with fail
        go_ret
        exact ⟨ret_int (by rw [hy.out]; rfl), rfl⟩

set_option maxHeartbeats 1600000 in
theorem l01Box_any (v : Value) (xs : List Int) (m : Int) (w : World) (h : Ints w v xs) (hl : xs.length ≤ 30) (hx : ∀ (i : Nat) (x : Int), xs[i]? = some x → 0 ≤ x ∧ x < 1073741824 ∧ x.toNat < 2 ^ xs.length) (h0 : 0 ≤ m) (h1 : m < 1073741824) :
    Calls Try.prog 59 #[v, .int .i64 m] w fun e w' => e = .returned (.int .i64 (boxR xs m)) ∧ Below w.heap.size w w' := by
  have hx := Lib.hid hx
  obtain ⟨_, a, c, b, o, rfl, hc, hz, hcell⟩ := h.opened
  clear h
  rcases hz with hz | ⟨hz, rfl⟩
  all_goals
    go_enter Try.func59, Try.ntmps59
    go_wp2_with fail
    go_loopw [5, 6] (fun r j wr => ∃ (t : Nat) (y : Int), t ≤ xs.length ∧ j = .int .i64 t ∧ r = .int .i64 y ∧ 0 ≤ y ∧ y < 1073741824 ∧ Hid (y = (boxUpto xs m t : Nat)) ∧ Below w.heap.size w wr) (fun _ j _ => xs.length - (intOf j).toNat)
    case atStart => exact ⟨0, 0, Nat.zero_le _, rfl, rfl, by omega, by omega, rfl, Below.refl _ _⟩
    case round =>
      obtain ⟨t, y, ht, rfl, rfl, y0, y1, hy, hb⟩ := hrel
      by_cases hlt : t < xs.length
      · all_goals try (exfalso; omega)
        all_goals
          obtain ⟨x, hxk, hcx⟩ := hcell.out t hlt
          have hcx := (hb.cell (p := ⟨b, o + t, none⟩) (World.block_lt_of_cell? w _ hcx)).trans hcx
          obtain ⟨x0, x1, _⟩ := hx.out t x hxk
          have hs := or30_pow y t y0 y1 (by omega)
          have hs1 := Lib.hid hs.1
          obtain ⟨hs2, hs3⟩ := hs.2
          have hwi := and_eq_wi x m x0 (by omega) h0 (by omega)
          clear hs
          cases hh : wiB x m
          · have hst := Lib.hid (box_no hxk hh)
            rw [hh] at hwi
            clear hh hxk
            go_wp2_with fail
            go_quiet (fail)
            go_wp2_with fail
            go_roundw
            case rel =>
              refine ⟨t + 1, y, by omega, by go_num, rfl, y0, y1, ?_, below_drewN hb _⟩
              show _ = _
              rw [hst.out, hy.out]
            case measure => simp [intOf]; omega
          · have hst := Lib.hid (box_yes hxk hh)
            rw [hh] at hwi
            clear hh hxk
            go_wp2_with fail
            go_quiet (fail)
            go_wp2_with fail
            refine (l01One_any _ (by omega) (by omega) _).mono ?_
            rintro e w' ⟨rfl, rfl⟩
            go_wp2_with fail
            go_roundw
            case rel =>
              refine ⟨t + 1, _, by omega, by go_num, rfl, hs2, hs3, ?_, below_drewN hb _⟩
              show _ = _
              rw [hs1.out, hst.out, hy.out, Int.toNat_natCast]
            case measure => simp [intOf]; omega
      · obtain rfl : t = xs.length := by omega
        go_wp2_with fail
        go_ret
        exact ⟨ret_int (by rw [hy.out]; rfl), hb⟩

def imageRR (xs : List Int) (m : Int) : Int := if onCode xs m = 0 then imgR xs m else 0
def boxRR (xs : List Int) (m : Int) : Int := if onCode xs m = 0 then boxR xs m else 0
theorem onCode_ne {xs : List Int} {m : Int} (h : ¬ onCode xs m = 0) : (onCode xs m != 0) = true := by simpa using h

theorem implImageMask_any (v : Value) (xs : List Int) (m : Int) (w : World) (h : Ints w v xs) :
    Calls Try.prog 38 #[v, .int .i64 m] w fun e w' => e = .returned (.tuple #[.int .i64 (imageRR xs m), .int .i64 (onCode xs m)]) ∧ Below w.heap.size w w' := by
  have hv := Lib.hid h
  clear h
  by_cases h0 : onCode xs m = 0
  · have hf := Lib.hid (show imageRR xs m = imgR xs m by simp [imageRR, h0])
    obtain ⟨hl, hr, m0, m1, m2⟩ := on_bounds h0
    have hxb := Lib.hid (rel_bounds hl hr)
    have hm2 := Lib.hid m2
    have hz := Lib.hid h0
    clear h0 hr m2
    go_enter Try.func38, Try.ntmps38
    go_wp2_with fail
    refine (maskOn_any _ xs _ _ hv.out).mono ?_
    rintro e w1 ⟨rfl, b1⟩
    rw [hz.out]
    go_wp2_with fail
    refine (image_any _ xs _ _ (hv.out.below b1 (Nat.le_refl _)) hl hxb.out m0 m1 hm2.out).mono ?_
    rintro e w2 ⟨rfl, b2⟩
    go_wp2_with fail
    go_ret2
    exact ⟨by rw [hf.out, hz.out]; rfl, b1.trans (b2.mono b1.size)⟩
  · have hf := Lib.hid (show imageRR xs m = 0 by simp [imageRR, h0])
    have hne := onCode_ne h0
    clear h0
    go_enter Try.func38, Try.ntmps38
    go_wp2_with fail
    refine (maskOn_any _ xs _ _ hv.out).mono ?_
    rintro e w1 ⟨rfl, b1⟩
    go_wp2_with fail
    go_ret2
    exact ⟨by rw [hf.out]; rfl, b1⟩

theorem specImageMask_any (v : Value) (xs : List Int) (m : Int) (w : World) (h : Ints w v xs) :
    Calls Try.prog 37 #[v, .int .i64 m] w fun e w' => e = .returned (.tuple #[.int .i64 (imageRR xs m), .int .i64 (onCode xs m)]) ∧ Below w.heap.size w w' := by
  have hv := Lib.hid h
  clear h
  by_cases h0 : onCode xs m = 0
  · have hf := Lib.hid (show imageRR xs m = imgR xs m by simp [imageRR, h0])
    obtain ⟨hl, hr, m0, m1, m2⟩ := on_bounds h0
    have hxb := Lib.hid (rel_bounds hl hr)
    have hm2 := Lib.hid m2
    have hz := Lib.hid h0
    clear h0 hr m2
    go_enter Try.func37, Try.ntmps37
    go_wp2_with fail
    refine (l01Both_any _ xs _ _ hv.out).mono ?_
    rintro e w1 ⟨rfl, b1⟩
    rw [hz.out]
    go_wp2_with fail
    refine (l01Image_any _ xs _ _ (hv.out.below b1 (Nat.le_refl _)) hl hxb.out m0 m1 hm2.out).mono ?_
    rintro e w2 ⟨rfl, rfl⟩
    go_wp2_with fail
    go_ret2
    exact ⟨by rw [hf.out, hz.out]; rfl, b1⟩
  · have hf := Lib.hid (show imageRR xs m = 0 by simp [imageRR, h0])
    have hne := onCode_ne h0
    clear h0
    go_enter Try.func37, Try.ntmps37
    go_wp2_with fail
    refine (l01Both_any _ xs _ _ hv.out).mono ?_
    rintro e w1 ⟨rfl, b1⟩
    go_wp2_with fail
    go_ret2
    exact ⟨by rw [hf.out]; rfl, b1⟩

theorem implBoxMask_any (v : Value) (xs : List Int) (m : Int) (w : World) (h : Ints w v xs) :
    Calls Try.prog 34 #[v, .int .i64 m] w fun e w' => e = .returned (.tuple #[.int .i64 (boxRR xs m), .int .i64 (onCode xs m)]) ∧ Below w.heap.size w w' := by
  have hv := Lib.hid h
  clear h
  by_cases h0 : onCode xs m = 0
  · have hf := Lib.hid (show boxRR xs m = boxR xs m by simp [boxRR, h0])
    obtain ⟨hl, hr, m0, m1, m2⟩ := on_bounds h0
    have hxb := Lib.hid (rel_bounds hl hr)
    have hz := Lib.hid h0
    clear h0 hr m2
    go_enter Try.func34, Try.ntmps34
    go_wp2_with fail
    refine (maskOn_any _ xs _ _ hv.out).mono ?_
    rintro e w1 ⟨rfl, b1⟩
    rw [hz.out]
    go_wp2_with fail
    refine (box_any _ xs _ _ (hv.out.below b1 (Nat.le_refl _)) hl hxb.out m0 m1).mono ?_
    rintro e w2 ⟨rfl, rfl⟩
    go_wp2_with fail
    go_ret2
    exact ⟨by rw [hf.out, hz.out]; rfl, b1⟩
  · have hf := Lib.hid (show boxRR xs m = 0 by simp [boxRR, h0])
    have hne := onCode_ne h0
    clear h0
    go_enter Try.func34, Try.ntmps34
    go_wp2_with fail
    refine (maskOn_any _ xs _ _ hv.out).mono ?_
    rintro e w1 ⟨rfl, b1⟩
    go_wp2_with fail
    go_ret2
    exact ⟨by rw [hf.out]; rfl, b1⟩

theorem specBoxMask_any (v : Value) (xs : List Int) (m : Int) (w : World) (h : Ints w v xs) :
    Calls Try.prog 33 #[v, .int .i64 m] w fun e w' => e = .returned (.tuple #[.int .i64 (boxRR xs m), .int .i64 (onCode xs m)]) ∧ Below w.heap.size w w' := by
  have hv := Lib.hid h
  clear h
  by_cases h0 : onCode xs m = 0
  · have hf := Lib.hid (show boxRR xs m = boxR xs m by simp [boxRR, h0])
    obtain ⟨hl, hr, m0, m1, m2⟩ := on_bounds h0
    have hxb := Lib.hid (rel_bounds hl hr)
    have hz := Lib.hid h0
    clear h0 hr m2
    go_enter Try.func33, Try.ntmps33
    go_wp2_with fail
    refine (l01Both_any _ xs _ _ hv.out).mono ?_
    rintro e w1 ⟨rfl, b1⟩
    rw [hz.out]
    go_wp2_with fail
    refine (l01Box_any _ xs _ _ (hv.out.below b1 (Nat.le_refl _)) hl hxb.out m0 m1).mono ?_
    rintro e w2 ⟨rfl, b2⟩
    go_wp2_with fail
    go_ret2
    exact ⟨by rw [hf.out, hz.out]; rfl, b1.trans (b2.mono b1.size)⟩
  · have hf := Lib.hid (show boxRR xs m = 0 by simp [boxRR, h0])
    have hne := onCode_ne h0
    clear h0
    go_enter Try.func33, Try.ntmps33
    go_wp2_with fail
    refine (l01Both_any _ xs _ _ hv.out).mono ?_
    rintro e w1 ⟨rfl, b1⟩
    go_wp2_with fail
    go_ret2
    exact ⟨by rw [hf.out]; rfl, b1⟩
end Go.Proofs.Ytjjnnlfcdncefaa
