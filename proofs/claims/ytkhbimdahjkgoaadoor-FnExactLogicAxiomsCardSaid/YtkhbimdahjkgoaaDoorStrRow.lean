/- Rows of strings as results: equality, marks, and whether the marks are held. -/
import Derived.Test.YtkhbimdahjkgoaaDoorKit
import Derived.Test.YtkhbimdahjkgoaaDoorInts
import Derived.Sort.OwnSorted
import Derived.BigQuiet
import Derived.Deep.RegionWith
import Derived.Deep.RegionHeld3
namespace Go.Proofs.YtkhbimdahjkgoaaDoor
open Go.RowKit Go.Sort
set_option linter.unusedVariables false

abbrev Bs := List UInt8
/-- A slice of strings, told by their bytes. -/
def StrL (w : World) (v : Value) (ss : List Bs) : Prop := Reads w 1 v ss.length (ss.map encStr)
theorem StrL.below {w w' : World} {v : Value} {ss : List Bs} {K : Nat} (h : StrL w v ss) (hb : RowKit.Below K w w') (hk : w.heap.size ≤ K) : StrL w' v ss := Reads.below h hb hk
theorem strL_of_own {w : World} {B : Nat} {e : TypeId} {v : Value} {n : Nat} {ss : List Bs} (h : w.ownsRow B e 1 v n (ss.map encStr)) : StrL w v ss := by
  have hn : n = ss.length := by have := h.1; simp at this; omega
  subst hn
  exact reads_of_own h
theorem StrL.opened {w : World} {v : Value} {ss : List Bs} (h : StrL w v ss) : ss.length ≤ maxLen ∧ ∃ a c b o, v = .slice a ss.length c ∧ ss.length ≤ c ∧ (ss.length ≤ 0 ∨ 0 < ss.length ∧ a = some ⟨b, o, none⟩) ∧
    Hid (∀ k, k < ss.length → ∃ x, ss[k]? = some x ∧ w.cell? ⟨b, o + k, none⟩ = some (encStr x)) := by
  obtain ⟨_, h2, a, c, b, o, hv, hc, ha, hcell⟩ := h
  refine ⟨h2, a, c, b, o, hv, hc, ?_, fun k hk => ⟨ss[k], by simp [hk], hcell k _ (by simp [hk])⟩⟩
  rcases Nat.eq_zero_or_pos ss.length with h | h
  · exact .inl (by omega)
  · exact .inr ⟨h, ha h⟩
theorem StrL.cap {w : World} {v : Value} {ss : List Bs} (h : StrL w v ss) : ss.length ≤ maxLen := h.2.1
/-- A text's bytes. -/
def byS (s : ByteArray) : Bs := s.data.toList
theorem enc_byS (s : ByteArray) : encStr (byS s) = .string s := by cases s; rfl

def digB (d : Nat) : ByteArray := ⟨#[UInt8.ofNat (48 + d)]⟩
/-- The decimal text of a number; of 0 the empty text. -/
def decS (n : Nat) : ByteArray := if h : n = 0 then ByteArray.empty else decS (n / 10) ++ digB (n % 10)
theorem decS_zero : decS 0 = ByteArray.empty := by rw [decS]; simp
theorem decS_pos {n : Nat} (h : 0 < n) : decS n = decS (n / 10) ++ digB (n % 10) := by
  rw [decS, dif_neg (by omega)]
theorem decS_size (m : Nat) : ∀ n, n < 10 ^ m → (decS n).size ≤ m := by
  induction m with
  | zero => intro n h; obtain rfl : n = 0 := by simpa using h
            rw [decS_zero]; simp
  | succ m ih =>
    intro n h
    rcases Nat.eq_zero_or_pos n with h0 | h0
    · subst h0; rw [decS_zero]; simp
    · rw [decS_pos h0, ByteArray.size_append]
      have := ih (n / 10) (by rw [Nat.pow_succ] at h; omega)
      have h1 : (digB (n % 10)).size = 1 := rfl
      omega
def mB : ByteArray := ⟨#[109]⟩
/-- The mark of a number. -/
def markT (n : Nat) : ByteArray := if n = 0 then ⟨#[109, 48]⟩ else mB ++ decS n

theorem add_fact9 {P : Program} (a b : ByteArray) (ha : a.size ≤ 3000) (hb : b.size ≤ 3000) : ∀ W : World, (Op.stringOp .add a b).run P W = .ok (.string (a ++ b)) W := fun W => run_string_add_sum W a b (by omega)

theorem conv_byte (w : World) (c : Nat) (hc : c < 256) : (convert 42 9 (.slice (some ⟨w.heap.size, 0, none⟩) 1 1)).run Tryd.prog (w.alloc (.cells #[.int .u8 (c : Int)] 5)) = .ok (.string ⟨#[UInt8.ofNat c]⟩) (w.alloc (.cells #[.int .u8 (c : Int)] 5)) := by
  refine run_convert_bytes_back (P := Tryd.prog) (w.alloc (.cells #[.int .u8 (c : Int)] 5)) 42 9 5 ⟨w.heap.size, 0, none⟩ 1 [UInt8.ofNat c] Tryd.underlying42 Tryd.underlying5 Tryd.underlying9 fun j hj => ?_
  obtain rfl : j = 0 := by simpa using hj
  rw [Addr.add_lit, World.cell?_alloc_at _ _ _ _ rfl]
  have h9 : (UInt8.ofNat c).toNat = c := by simp; omega
  simp [h9]
set_option maxHeartbeats 2000000 in
set_option maxRecDepth 100000 in
theorem markText_any (n : Nat) (w : World) (hn : n < 10 ^ 18) :
    Calls Tryd.prog 19 #[.int .i64 (n : Int)] w fun e w' => e = .returned (.string (markT n)) ∧ RowKit.Below w.heap.size w w' := by
  rcases Nat.eq_zero_or_pos n with h0 | h0
  · subst h0
    go_enter Tryd.func19, Tryd.ntmps19
    go_wp2_with fail
    go_ret
    exact ⟨rfl, RowKit.Below.refl _ _⟩
  · have hmt := Lib.hid (show markT n = mB ++ decS n by unfold markT; rw [if_neg (by omega)])
    have hsz := Lib.hid (decS_size 18 n hn)
    have hn0 : ¬ ((n : Int) ≤ 0) := by omega
    generalize markT n = MT at *
    go_enter Tryd.func19, Tryd.ntmps19
    go_wp2_with fail
    go_loopw [0, 3] (fun k out wr => ∃ (K : Nat) (T : ByteArray), K < 1000000000000000000 ∧ k = .int .i64 K ∧ out = .string T ∧ Hid (decS n = decS K ++ T) ∧ T.size ≤ 18 ∧ RowKit.Below w.heap.size w wr) (fun k _ _ => (intOf k).toNat)
    case atStart => exact ⟨n, ByteArray.empty, hn, rfl, rfl, Lib.hid (by simp), by simp, RowKit.Below.refl _ _⟩
    case round =>
      obtain ⟨K, T, hK, rfl, rfl, hd, hT, hb⟩ := hrel
      cases K with
      | zero =>
        have he : decS n = T := by rw [hd.out, decS_zero]; simp
        have hadd := add_fact9 (P := Tryd.prog) mB T (by show (1 : Nat) ≤ 3000; omega) (by omega)
        have hres := Lib.hid (show MT = mB ++ T by rw [hmt.out, he])
        unfold mB at hadd
        go_wp2_with fail
        go_ret
        exact ⟨by rw [hres.out]; rfl, hb⟩
      | succ K =>
        have hk0 : ¬ (((K + 1 : Nat) : Int) ≤ 0) := by omega
        generalize hK1 : K + 1 = K1 at *
        have hconv := conv_byte wr (48 + K1 % 10) (by omega)
        have hcast : ((48 + K1 % 10 : Nat) : Int) = 48 + (K1 : Int) % 10 := by omega
        rw [hcast] at hconv
        clear hcast
        have hd2 := Lib.hid (show decS n = decS (K1 / 10) ++ (digB (K1 % 10) ++ T) by rw [hd.out, decS_pos (by omega), ByteArray.append_assoc])
        have hdz : (digB (K1 % 10)).size = 1 := rfl
        have hadd := add_fact9 (P := Tryd.prog) (digB (K1 % 10)) T (by omega) (by omega)
        have hszs : (digB (K1 % 10) ++ T).size ≤ 18 := by
          have h9 := hsz.out
          rw [hd2.out, ByteArray.size_append] at h9
          omega
        have hdg : (⟨#[UInt8.ofNat (48 + K1 % 10)]⟩ : ByteArray) = digB (K1 % 10) := rfl
        rw [hdg] at hconv
        generalize digB (K1 % 10) = DG at *
        clear hdg hdz
        have hbw := Lib.hid (fun o => hb.alloc hb.size o)
        go_wp2_with fail
        go_roundw
        case rel => exact ⟨K1 / 10, DG ++ T, by omega, by go_num, rfl, hd2, hszs, hbw.out _⟩
        case measure => simp [intOf]; omega

set_option maxHeartbeats 1000000 in
theorem eqStringS_same (v v' : Value) (xs : List Bs) (w : World) (h : StrL w v xs) (h' : StrL w v' xs) :
    Calls Tryd.prog 9 #[v, v'] w fun e w' => e = .returned (.bool true) ∧ RowKit.Below w.heap.size w w' := by
  obtain ⟨hm, a, c, b, o, rfl, hc, h0, hcell⟩ := h.opened
  obtain ⟨hm', a', c', b', o', rfl, hc', h0', hcell'⟩ := h'.opened
  unfold maxLen at hm hm'
  clear h h'
  rcases h0 with h0 | ⟨h0, rfl⟩
  all_goals rcases h0' with h0' | ⟨h0', rfl⟩
  all_goals try (exfalso; omega)
  all_goals
    go_enter Tryd.func9, Tryd.ntmps9
    go_wp2_with fail
    go_loopw [5] (fun i wr => ∃ k : Nat, k ≤ xs.length ∧ i = .int .i64 k ∧ RowKit.Below w.heap.size w wr) (fun i _ => xs.length - (intOf i).toNat)
    case atStart => exact ⟨0, Nat.zero_le _, rfl, RowKit.Below.refl _ _⟩
    case round =>
      obtain ⟨k, hk, rfl, hb⟩ := hrel
      by_cases hlt : k < xs.length
      · all_goals try (exfalso; omega)
        all_goals
          obtain ⟨x, hx, hcx⟩ := hcell.out k hlt
          obtain ⟨y, hy, hcy⟩ := hcell'.out k hlt
          obtain rfl : x = y := by rw [hx] at hy; simpa using hy
          have hcx := keep_cell hb hcx
          have hcy := keep_cell hb hcy
          clear hx hy
          unfold encStr at hcx hcy
          generalize (⟨x.toArray⟩ : ByteArray) = X at *
          go_wp2_with fail
          go_quiet (fail)
          go_wp2_with fail
          go_roundw
          case rel => exact ⟨k + 1, by omega, by go_num, hb.trans (below_drewN' _ _)⟩
          case measure => simp [intOf]; omega
      · obtain rfl : k = xs.length := by omega
        go_wp2_with fail
        go_ret
        exact ⟨rfl, hb⟩

/-- The marks from k on. -/
def marksS (k n : Nat) : List Bs := (List.range n).map fun i => byS (markT (k + i))
theorem marksS_length (k n : Nat) : (marksS k n).length = n := by simp [marksS]
theorem marksS_get (k n i : Nat) (h : i < n) : (marksS k n)[i]? = some (byS (markT (k + i))) := by
  simp [marksS, List.getElem?_map, List.getElem?_range h]

set_option maxHeartbeats 1000000 in
theorem markStringS_any (v : Value) (B n : Nat) (xs : List Bs) (k0 : Nat) (w : World) (h : w.ownsRow B 9 1 v n (xs.map encStr)) (hBw : B ≤ w.heap.size) (hk2 : k0 + n ≤ 1000000000) :
    Calls Tryd.prog 10 #[v, .int .i64 (k0 : Int)] w fun e w' => e = .returned (.int .i64 ((k0 + n : Nat) : Int)) ∧ w'.ownsRow B 9 1 v n ((marksS k0 n).map encStr) ∧ w.grownBy w' v.ownBlock := by
  have hl : xs.length = n := by have := h.1; simpa using this
  rcases h.2 with ⟨rfl, rfl⟩ | ⟨g, cap, cur, rfl, hB, hg, hnc, hcm, _, _⟩
  · go_enter Tryd.func10, Tryd.ntmps10
    go_wp2
    refine wp_loop_rounds 1 ?_
    rw [rounds_succ]
    go_wp2
    go_ret
    exact ⟨ret_int (by omega), World.ownsRow_nil _ _ _ _, World.grownBy.refl _ _⟩
  · unfold maxLen at hcm
    have hgw := (Array.getElem?_eq_some_iff.1 hg).1
    clear hg
    go_enter Tryd.func10, Tryd.ntmps10
    go_wp2
    go_loopw [1, 5] (fun j i wr => ∃ k : Nat, k ≤ n ∧ i = .int .i64 k ∧ j = .int .i64 ((k0 + k : Nat) : Int) ∧ wr.ownsRow B 9 1 (.slice (some ⟨g, 0, none⟩) n cap) n (((marksS k0 n).take k ++ xs.drop k).map encStr) ∧ w.grownBy wr (some g)) (fun _ i _ => n - (intOf i).toNat)
    case atStart => exact ⟨0, Nat.zero_le _, rfl, rfl, by simpa using h, World.grownBy.refl _ _⟩
    case round =>
      obtain ⟨k, hk', rfl, rfl, ho, hb⟩ := hrel
      by_cases hlt : k < n
      · have hm := Lib.hid (marksS_get k0 n k hlt)
        have hmk := Lib.hid (markText_any (k0 + k))
        have ho := Lib.hid ho
        have hzb := hb.size
        generalize hkk : k0 + k = kk at *
        go_wp2_with fail
        refine (hmk.out _ (by omega)).mono ?_
        rintro e w2 ⟨rfl, b2⟩
        have ho2 := Lib.hid (own_below ho.out b2 (Nat.le_refl _))
        obtain ⟨⟨z, _, hcz⟩, hfz⟩ := own_cell ho2.out hlt
        have hst := Lib.hid (own_store ho2.out hm.out (by omega))
        have hgr : w.grownBy w2 (some g) := ⟨b2.os.trans hb.os, b2.tape.trans hb.tape, b2.output.trans hb.output, Nat.le_trans hb.size b2.size, fun j hj hne => (b2.block j (by omega)).trans (hb.block j hj hne)⟩
        have hgr := Lib.hid hgr
        rw [enc_byS] at hst
        clear ho ho2 b2 hb hm
        generalize markT kk = MK at *
        go_wp2_with fail
        go_roundw
        case rel => exact ⟨k + 1, by omega, by go_num, by rw [← hkk]; go_num, hst.out, ⟨hgr.out.os, hgr.out.tape, hgr.out.output, by simpa using hgr.out.size, fun j hj hne => by rw [RowKit.Below.heap_setCell _ _ _ _ (by simpa using hne)]; exact hgr.out.block j hj hne⟩⟩
        case measure => simp [intOf]; omega
      · obtain rfl : k = n := by omega
        have ho := Lib.hid ho
        go_wp2_with fail
        go_ret
        refine ⟨rfl, ?_, hb⟩
        have := ho.out
        rw [List.drop_of_length_le (by omega), List.append_nil, List.take_of_length_le (by rw [marksS_length]; omega)] at this
        exact this

set_option maxHeartbeats 2000000 in
theorem heldStringS_any (v : Value) (n : Nat) (k0 : Nat) (w : World) (h : StrL w v (marksS k0 n)) (hk2 : k0 + n ≤ 1000000000) :
    Calls Tryd.prog 11 #[v, .int .i64 (k0 : Int)] w fun e w' => e = .returned (.int .i64 ((k0 + n : Nat) : Int)) ∧ RowKit.Below w.heap.size w w' := by
  obtain ⟨hm, a, c, b, o, rfl, hc, h0, hcell⟩ := h.opened
  rw [marksS_length] at *
  unfold maxLen at hm
  clear h
  rcases h0 with h0 | ⟨h0, rfl⟩
  all_goals
    go_enter Tryd.func11, Tryd.ntmps11
    go_wp2_with fail
    go_loopw [1, 5] (fun j i wr => ∃ k : Nat, k ≤ n ∧ i = .int .i64 k ∧ j = .int .i64 ((k0 + k : Nat) : Int) ∧ RowKit.Below w.heap.size w wr) (fun _ i _ => n - (intOf i).toNat)
    case atStart => exact ⟨0, Nat.zero_le _, rfl, rfl, RowKit.Below.refl _ _⟩
    case round =>
      obtain ⟨k, hk, rfl, rfl, hb⟩ := hrel
      by_cases hlt : k < n
      · all_goals try (exfalso; omega)
        all_goals
          obtain ⟨x, hx, hcx⟩ := hcell.out k hlt
          rw [marksS_get k0 n k hlt] at hx
          obtain rfl := Option.some.inj hx
          rw [enc_byS] at hcx
          have hcx := keep_cell hb hcx
          have hmk := Lib.hid (fun W => markText_any (k0 + k) W (by omega))
          clear hx
          generalize hkk : k0 + k = kk at *
          generalize markT kk = MK at *
          go_wp2_with fail
          (first | (go_region_with (first
            | (go_at_call 19; refine (hmk.out _).mono ?_; rintro e w5 ⟨rfl, b5⟩; have hc5 := keep_cell b5 (by first | exact hcx | assumption)))) | fail)
          all_goals
            have B9 : RowKit.Below wr.heap.size wr w5 := ⟨b5.os, b5.tape, b5.output, b5.size, b5.block⟩
            go_wp2_with fail
            go_roundw
            case rel => exact ⟨k + 1, by omega, by go_num, by rw [← hkk]; go_num, by first | exact keep_step B9 hb | exact (keep_step B9 hb).drew | exact below_drewN (keep_step B9 hb) _⟩
            case measure => simp [intOf]; omega
      · obtain rfl : k = n := by omega
        go_wp2_with fail
        go_ret
        exact ⟨rfl, hb⟩
theorem markStringS_one (v : Value) (B n : Nat) (xs : List Bs) (w : World) (h : w.ownsRow B 9 1 v n (xs.map encStr)) (hBw : B ≤ w.heap.size) (hk2 : n ≤ 1000) :
    Calls Tryd.prog 10 #[v, .int .i64 1] w fun e w' => e = .returned (.int .i64 (1 + (n : Int))) ∧ w'.ownsRow B 9 1 v n ((marksS 1 n).map encStr) ∧ w.grownBy w' v.ownBlock := by
  have h9 := markStringS_any v B n xs 1 w h hBw (by omega)
  have e9 : ((1 + n : Nat) : Int) = 1 + (n : Int) := by omega
  rw [e9] at h9
  exact h9
theorem heldStringS_one (v : Value) (n : Nat) (w : World) (h : StrL w v (marksS 1 n)) (hk2 : n ≤ 1000) :
    Calls Tryd.prog 11 #[v, .int .i64 1] w fun e w' => e = .returned (.int .i64 (1 + (n : Int))) ∧ RowKit.Below w.heap.size w w' := by
  have h9 := heldStringS_any v n 1 w h (by omega)
  have e9 : ((1 + n : Nat) : Int) = 1 + (n : Int) := by omega
  rw [e9] at h9
  exact h9
end Go.Proofs.YtkhbimdahjkgoaaDoor
