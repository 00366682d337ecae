/- The laws' own functions on slices of steps: the size, a copy, equality. -/
import Derived.Test.YtggelkhfkhbgmaaStp
namespace Go.Proofs.Ytggelkhfkhbgmaa
open Go.RowKit
set_option linter.unusedVariables false

theorem info_stp : (Try.prog.info? 47).map (fun i => (i.zero, i.size, i.bytes)) = some (some (.agg #[.slice none 0 0, .int .i64 0, .int .i64 0, .int .i64 0]), 4, 48) := by kernel_rfl
abbrev aggSt (u : Option Addr) (n cp : Nat) (x y z : Int) : Value := .agg #[.slice u n cp, .int .i64 x, .int .i64 y, .int .i64 z]

theorem szResolvent_any (u : Option Addr) (cp : Nat) (xs : List Int) (x y z l : Int) (w : World) (h : Ints w (.slice u xs.length cp) xs) (h0 : 0 ≤ l) (h1 : l ≤ 1048576) :
    Calls Try.prog 27 #[.agg #[.slice u xs.length cp, .int .i64 x, .int .i64 y, .int .i64 z], .int .i64 l] w fun e w' => e = .returned (.int .i64 (szRI l xs.length)) ∧ Below w.heap.size w w' := by
  have hb0 := (Below.refl w.heap.size w).alloc (Nat.le_refl _) (.cells #[.slice u xs.length cp, .int .i64 x, .int .i64 y, .int .i64 z] 44)
  have hsz := Lib.hid (fun W (hb : Below w.heap.size w W) => szInt64S_any (.slice u xs.length cp) xs l W (h.below hb (Nat.le_refl _)) h0 h1)
  clear h
  by_cases hlt : l < xs.length
  · have hf := Lib.hid (szRI_lt hlt)
    generalize szRI l xs.length = r at *
    obtain rfl := hf.out
    go_enter Try.func27, Try.ntmps27
    go_wp2_with fail
    refine (hsz.out _ hb0).mono ?_
    rintro e w' ⟨rfl, rfl⟩
    go_wp2_with fail
    go_ret
    exact ⟨rfl, hb0⟩
  · have hf := szRI_ge (show (xs.length : Int) ≤ l by omega)
    have hr : 0 ≤ szRI l xs.length := by omega
    have hr2 : ¬ szRI l xs.length < 0 := by omega
    clear hf
    generalize szRI l xs.length = r at *
    go_enter Try.func27, Try.ntmps27
    go_wp2_with fail
    refine (hsz.out _ hb0).mono ?_
    rintro e w' ⟨rfl, rfl⟩
    go_wp2_with fail
    go_ret
    exact ⟨rfl, hb0⟩

set_option maxHeartbeats 1000000 in
theorem szResolventS_any (v : Value) (S : List Stp) (l : Int) (w : World) (h : Steps w v S) (h0 : 0 ≤ l) (h1 : l ≤ 1048576) :
    Calls Try.prog 14 #[v, .int .i64 l] w fun e w' => (∃ z : Int, e = .returned (.int .i64 z) ∧ (z = -1 ∨ 0 ≤ z ∧ z ≤ l ∧ S.length ≤ 1048576 ∧ ∀ s ∈ S, s.1.length ≤ 1048576)) ∧ Below w.heap.size w w' := by
  obtain ⟨hm, a, c, b, o, rfl, hc, ha, hcell⟩ := h.opened
  unfold maxLen at hm
  clear h
  have hw1 : IntKind.i64.wrap (l - (S.length : Int)) = l - (S.length : Int) := IntWalk.i64_in _ (by omega)
  by_cases hneg : l - (S.length : Int) < 0
  · go_enter Try.func14, Try.ntmps14
    go_wp2_with fail
    go_ret
    exact ⟨⟨_, rfl, .inl rfl⟩, Below.refl _ _⟩
  · go_enter Try.func14, Try.ntmps14
    go_wp2_with fail
    go_loopw [1, 5] (fun z i wr => ∃ (k : Nat) (q : Int), k ≤ S.length ∧ i = .int .i64 k ∧ z = .int .i64 q ∧ 0 ≤ q ∧ q ≤ l ∧ Hid (∀ (j : Nat) (s : Stp), j < k → S[j]? = some s → s.1.length ≤ 1048576) ∧ Below w.heap.size w wr) (fun _ i _ => S.length - (intOf i).toNat)
    case atStart => exact ⟨0, _, Nat.zero_le _, rfl, rfl, by omega, by omega, fun j I hj => by omega, Below.refl _ _⟩
    case round =>
      clear hw1
      obtain ⟨k, q, hk, rfl, rfl, hq0, hq1, hall, hb⟩ := hrel
      by_cases hlt : k < S.length
      · have ha2 : a = some ⟨b, o, none⟩ := by
          rcases ha with h | ⟨_, h⟩
          · exact absurd h (by omega)
          · exact h
        subst ha2
        obtain ⟨xs, x, y, z, u, n, cp, hS, c0, hin, c1, c2, c3⟩ := hcell.out k hlt
        obtain ⟨_, _, e0⟩ := hin.shape
        injection e0 with e1 e2 e3
        subst e2; clear e1 e3
        have c0 := keep_cell hb c0
        have c1 := keep_cell hb c1
        have c2 := keep_cell hb c2
        have c3 := keep_cell hb c3
        have hin := Lib.hid (hin.below hb (Nat.le_refl _))
        have hSh := Lib.hid hS
        clear hS
        by_cases hs : q < (xs.length : Int)
        · have hsz := Lib.hid (show szRI q xs.length = -1 by unfold szRI; rw [if_pos hs])
          clear hs
          go_wp2_with fail
          refine (szResolvent_any _ _ xs _ _ _ q _ hin.out hq0 (by omega)).mono ?_
          rintro e w' ⟨rfl, hb'⟩
          rw [hsz.out]
          go_wp2_with fail
          go_ret
          exact ⟨⟨_, rfl, .inl rfl⟩, keep_step hb' hb⟩
        · have hsz := Lib.hid (show szRI q xs.length = q - xs.length by unfold szRI; rw [if_neg hs])
          have hp : 0 ≤ q - (xs.length : Int) := by omega
          go_wp2_with fail
          refine (szResolvent_any _ _ xs _ _ _ q _ hin.out hq0 (by omega)).mono ?_
          rintro e w' ⟨rfl, hb'⟩
          rw [hsz.out]
          have hIl : xs.length ≤ 1048576 := by omega
          have hq2 : q - (xs.length : Int) ≤ l := by omega
          generalize q - (xs.length : Int) = q' at *
          have hnn : ¬ q' < 0 := by omega
          have hB := keep_step hb' hb
          go_wp2_with fail
          go_roundw
          case rel =>
            refine ⟨k + 1, q', by omega, by go_num, rfl, hp, hq2, fun j J hj hJ => ?_, hB⟩
            rcases Nat.lt_or_ge j k with h2 | h2
            · exact hall.out j J h2 hJ
            · obtain rfl : j = k := by omega
              rw [hSh.out] at hJ
              obtain rfl := Option.some.inj hJ
              exact hIl
          case measure => simp [intOf]; omega
      · obtain rfl : k = S.length := by omega
        go_wp2_with fail
        go_ret
        refine ⟨⟨q, rfl, .inr ⟨hq0, hq1, by omega, fun I hI => ?_⟩⟩, hb⟩
        obtain ⟨j, hj⟩ := List.getElem?_of_mem hI
        exact hall.out j I (List.getElem?_eq_some_iff.1 hj).1 hj

theorem bcellS {W w1 : World} (hb : Below W.heap.size W w1) : (∀ b o, b < W.heap.size → w1.cell? ⟨b, o, none⟩ = W.cell? ⟨b, o, none⟩) ∧ (∀ b o, b < W.heap.size → w1.frozen? ⟨b, o, none⟩ = W.frozen? ⟨b, o, none⟩) :=
  ⟨fun b o h => hb.cell (p := ⟨b, o, none⟩) h, fun b o h => hb.frozen (p := ⟨b, o, none⟩) h⟩
theorem own_set_otherS {w : World} {B : Nat} {e : TypeId} {s : Nat} {v : Value} {n : Nat} {xs : List Value} {b o : Nat} {x : Value} (h : w.ownsRow B e s v n xs) (hb : b < B) : (w.setCell ⟨b, o, none⟩ x).ownsRow B e s v n xs := by
  refine h.kept (row := some b) ⟨rfl, rfl, rfl, by simp, fun j _ hne => Below.heap_setCell _ _ _ _ (by simpa using hne)⟩ ?_
  cases hv : v.ownBlock with
  | none => exact .inl rfl
  | some k =>
    right
    intro hc
    have h1 := (h.lt k hv).1
    injection hc with hc
    omega
set_option maxHeartbeats 1000000 in
theorem toResolvent_any (u : Option Addr) (cp : Nat) (xs : List Int) (x y z : Int) (w : World) (h : Ints w (.slice u xs.length cp) xs) (hn : xs.length ≤ 1048576) :
    Calls Try.prog 30 #[.agg #[.slice u xs.length cp, .int .i64 x, .int .i64 y, .int .i64 z]] w fun e w' => ∃ v', e = .returned (.agg #[v', .int .i64 x, .int .i64 y, .int .i64 z]) ∧ w'.ownsRow w.heap.size 2 1 v' xs.length (xs.map (Value.int .i64)) ∧ Below w.heap.size w w' := by
  have hto := Lib.hid (fun W (hb : Below w.heap.size w W) => toInt64S_any (.slice u xs.length cp) xs W (h.below hb (Nat.le_refl _)) hn)
  clear h
  go_enter Try.func30, Try.ntmps30
  go_wp2_with fail
  have B1 : Below w.heap.size w (((w.alloc (.cells #[.slice u xs.length cp, .int .i64 x, .int .i64 y, .int .i64 z] 44)).alloc (.cells #[.slice none 0 0, .int .i64 0, .int .i64 0, .int .i64 0] 47)).alloc (.cells #[.slice none 0 0, .int .i64 0, .int .i64 0, .int .i64 0] 47)) :=
    ((((Below.refl _ _).alloc (Nat.le_refl _) _).alloc (by simp) _).alloc (by simp; omega) _)
  refine (hto.out _ B1).mono ?_
  rintro e w1 ⟨v1, rfl, o1, b1⟩
  obtain ⟨a1, c1, rfl⟩ := (ints_of_own o1).shape
  obtain ⟨hc, hf⟩ := bcellS b1
  have hs := b1.size
  have hz : w.heap.size + 2 < w1.heap.size := by simp at hs; omega
  have hbb := Lib.hid (B1.trans (b1.mono B1.size))
  have o1 := Lib.hid o1
  have hB1 := Lib.hid B1.size
  clear b1 hs B1
  go_wp2_with fail
  refine bodyPost_ret (v := .agg #[.slice a1 xs.length c1, .int .i64 x, .int .i64 y, .int .i64 z]) (by simp [results, Try.results30, go_sem, hc]) rfl ⟨_, rfl, ?_, ?_⟩
  · refine own_mono ?_ hB1.out
    repeat (with_reducible refine own_set_otherS ?_ (by simp <;> omega))
    exact o1.out
  · repeat (with_reducible refine Below.setCell ?_ (by simp <;> omega) _)
    exact hbb.out

set_option maxHeartbeats 1000000 in
theorem eqResolvent_same (u u' : Option Addr) (cp cp' : Nat) (xs : List Int) (x y z : Int) (w : World) (h : Ints w (.slice u xs.length cp) xs) (h' : Ints w (.slice u' xs.length cp') xs) :
    Calls Try.prog 33 #[.agg #[.slice u xs.length cp, .int .i64 x, .int .i64 y, .int .i64 z], .agg #[.slice u' xs.length cp', .int .i64 x, .int .i64 y, .int .i64 z]] w fun e w' => e = .returned (.bool true) ∧ Below w.heap.size w w' := by
  have heq := Lib.hid (fun W (hb : Below w.heap.size w W) => eqInt64S_same _ _ xs W (h.below hb (Nat.le_refl _)) (h'.below hb (Nat.le_refl _)))
  clear h h'
  go_enter Try.func33, Try.ntmps33
  go_wp2_with fail
  have B1 : Below w.heap.size w ((w.alloc (.cells #[.slice u xs.length cp, .int .i64 x, .int .i64 y, .int .i64 z] 47)).alloc (.cells #[.slice u' xs.length cp', .int .i64 x, .int .i64 y, .int .i64 z] 47)) :=
    (((Below.refl _ _).alloc (Nat.le_refl _) _).alloc (by simp) _)
  refine (heq.out _ B1).mono ?_
  rintro e w1 ⟨rfl, b1⟩
  obtain ⟨hc, hf⟩ := bcellS b1
  have hbb := Lib.hid (B1.trans (b1.mono B1.size))
  clear b1 B1
  go_wp2_with fail
  go_ret
  exact ⟨rfl, hbb.out⟩

def nilSt : StV := (.slice none 0 0, 0, 0, 0)
theorem made_st (n : Nat) : (madeCells (Value.agg #[.slice none 0 0, .int .i64 0, .int .i64 0, .int .i64 0]).cells (n * 4)).toList = cellsSt (List.replicate n nilSt) := by
  have e : (Value.agg #[.slice none 0 0, .int .i64 0, .int .i64 0, .int .i64 0]).cells = #[.slice none 0 0, .int .i64 0, .int .i64 0, .int .i64 0] := rfl
  rw [e]
  apply List.ext_getElem?
  intro i
  by_cases hi : i < n * 4
  · have hg := cellsSt_get (List.replicate n nilSt) (i / 4) nilSt (by rw [List.getElem?_replicate, if_pos (by omega)])
    have h2 : i % 4 = 0 ∨ i % 4 = 1 ∨ i % 4 = 2 ∨ i % 4 = 3 := by omega
    rcases h2 with h2 | h2 | h2 | h2
    · have e2 : i / 4 * 4 = i := by omega
      rw [e2] at hg
      rw [hg.1]
      simp [madeCells, hi, h2, nilSt]
    · have e2 : i / 4 * 4 + 1 = i := by omega
      rw [e2] at hg
      rw [hg.2.1]
      simp [madeCells, hi, h2, nilSt]
    · have e2 : i / 4 * 4 + 2 = i := by omega
      rw [e2] at hg
      rw [hg.2.2.1]
      simp [madeCells, hi, h2, nilSt]
    · have e2 : i / 4 * 4 + 3 = i := by omega
      rw [e2] at hg
      rw [hg.2.2.2]
      simp [madeCells, hi, h2, nilSt]
  · rw [List.getElem?_eq_none (by simp [madeCells]; omega), List.getElem?_eq_none (by rw [cellsSt_length]; simp; omega)]
theorem set_nextSt (ss : List StV) (x : StV) (n : Nat) (h : ss.length < n) : (ss ++ List.replicate (n - ss.length) nilSt).set ss.length x = (ss ++ [x]) ++ List.replicate (n - (ss.length + 1)) nilSt := set_nextI ss x nilSt n h
theorem own_storeSt {w : World} {B : Nat} {e : TypeId} {g n cap : Nat} {ss : List StV} {s : StV}
    (h : w.ownsRow B e 4 (.slice (some ⟨g, 0, none⟩) n cap) n (cellsSt (ss ++ List.replicate (n - ss.length) nilSt))) (hk : ss.length < n) :
    ((((w.setCell ⟨g, ss.length * 4, none⟩ s.1).setCell ⟨g, ss.length * 4 + 1, none⟩ (.int .i64 s.2.1)).setCell ⟨g, ss.length * 4 + 2, none⟩ (.int .i64 s.2.2.1)).setCell ⟨g, ss.length * 4 + 3, none⟩ (.int .i64 s.2.2.2)).ownsRow B e 4 (.slice (some ⟨g, 0, none⟩) n cap) n (cellsSt ((ss ++ [s]) ++ List.replicate (n - (ss.length + 1)) nilSt)) := by
  have h1 := ((((h.stored (ss.length * 4) s.1).1.stored (ss.length * 4 + 1) (.int .i64 s.2.1)).1.stored (ss.length * 4 + 2) (.int .i64 s.2.2.1)).1.stored (ss.length * 4 + 3) (.int .i64 s.2.2.2)).1
  have hm : (ss ++ List.replicate (n - ss.length) nilSt)[ss.length]? = some nilSt := by
    rw [List.getElem?_append_right (Nat.le_refl _), Nat.sub_self, List.getElem?_replicate, if_pos (by omega)]
  rw [cellsSt_set _ _ _ s hm, set_nextSt ss s n hk] at h1
  exact h1
theorem own_cellSt {w : World} {B : Nat} {e : TypeId} {g n cap k : Nat} {zs : List StV} (h : w.ownsRow B e 4 (.slice (some ⟨g, 0, none⟩) n cap) n (cellsSt zs)) (hk : k < n) :
    ∃ u x y z, w.cell? ⟨g, k * 4, none⟩ = some u ∧ w.cell? ⟨g, k * 4 + 1, none⟩ = some (.int .i64 x) ∧ w.cell? ⟨g, k * 4 + 2, none⟩ = some (.int .i64 y) ∧ w.cell? ⟨g, k * 4 + 3, none⟩ = some (.int .i64 z) ∧ w.frozen? ⟨g, k * 4, none⟩ = false ∧ w.frozen? ⟨g, k * 4 + 1, none⟩ = false ∧ w.frozen? ⟨g, k * 4 + 2, none⟩ = false ∧ w.frozen? ⟨g, k * 4 + 3, none⟩ = false := by
  have hl : zs.length = n := by have := h.1; rw [cellsSt_length] at this; omega
  have hc := cellsSt_get zs k _ (List.getElem?_eq_getElem (by omega))
  refine ⟨(zs[k]'(by omega)).1, (zs[k]'(by omega)).2.1, (zs[k]'(by omega)).2.2.1, (zs[k]'(by omega)).2.2.2, ?_, ?_, ?_, ?_, h.frozenAt _, h.frozenAt _, h.frozenAt _, h.frozenAt _⟩
  · rw [h.cellAt _ (by omega)]; exact hc.1
  · rw [h.cellAt _ (by omega)]; exact hc.2.1
  · rw [h.cellAt _ (by omega)]; exact hc.2.2.1
  · rw [h.cellAt _ (by omega)]; exact hc.2.2.2

set_option maxHeartbeats 2000000 in
theorem toResolventS_any (v : Value) (S : List Stp) (w : World) (h : Steps w v S) (hn : S.length ≤ 1048576) (hl : ∀ s ∈ S, s.1.length ≤ 1048576) :
    Calls Try.prog 17 #[v] w fun e w' => ∃ v', e = .returned v' ∧ Steps w' v' S ∧ Below w.heap.size w w' := by
  obtain ⟨hm, a, c, b, o, rfl, hc, ha, hcell⟩ := h.opened
  clear h
  have hlh := Lib.hid hl
  clear hl
  obtain ⟨i0, hi, hz0, hz1, hz2⟩ := info_parts info_stp
  go_enter Try.func17, Try.ntmps17
  go_wp2_with (first | (at_make; refine wpList_make_full _ rfl _ _ 36 rfl w.heap.size 47 i0 (.agg #[.slice none 0 0, .int .i64 0, .int .i64 0, .int .i64 0]) 4 Try.underlying36 hi hz0 hz1 _ _ _ _ S.length rfl rfl rfl rfl (by rw [hz2]; omega) hm (Nat.le_refl _) ?_; intro w1 hown hgr; clear hi hz0 hz1 hz2) | go_in)
  rw [made_st] at hown
  have hgw := (hown.lt w.heap.size rfl).2
  go_loopw [4] (fun i wr => ∃ ss : List StV, ss.length ≤ S.length ∧ i = .int .i64 ss.length ∧ wr.ownsRow w.heap.size 47 4 (.slice (some ⟨w.heap.size, 0, none⟩) S.length S.length) S.length (cellsSt (ss ++ List.replicate (S.length - ss.length) nilSt)) ∧ Hid (∀ (i : Nat) (s : StV) (t : Stp), ss[i]? = some s → S[i]? = some t → s.2 = t.2 ∧ Ints wr s.1 t.1 ∧ ∀ k, s.1.ownBlock = some k → w.heap.size < k) ∧ Below w.heap.size w wr ∧ w.heap.size < wr.heap.size) (fun i _ => S.length - (intOf i).toNat)
  case atStart => exact ⟨[], Nat.zero_le _, rfl, by simpa using hown, fun i s t hs => by simp at hs, below_of_grownBy hgr (Nat.le_refl _) (by simp), hgw⟩
  case round =>
    obtain ⟨ss, hk, rfl, ho, hel, hb, hgl⟩ := hrel
    by_cases hlt : ss.length < S.length
    · have ha2 : a = some ⟨b, o, none⟩ := by
        rcases ha with h | ⟨_, h⟩
        · exact absurd h (by omega)
        · exact h
      subst ha2
      obtain ⟨xs, x, y, z, u, n, cp, hS, c0, hin, c1, c2, c3⟩ := hcell.out _ hlt
      obtain ⟨_, _, e0⟩ := hin.shape
      injection e0 with e1 e2 e3
      subst e2; clear e1 e3
      have c0 := keep_cell hb c0
      have c1 := keep_cell hb c1
      have c2 := keep_cell hb c2
      have c3 := keep_cell hb c3
      have hin := Lib.hid (hin.below hb (Nat.le_refl _))
      have hxl := Lib.hid (hlh.out _ (List.mem_of_getElem? hS))
      have hSh := Lib.hid hS
      have ho := Lib.hid ho
      have hbh := Lib.hid hb
      have hsb := hb.size
      clear hS hb
      go_wp2_with fail
      refine (toResolvent_any _ _ xs x y z _ hin.out hxl.out).mono ?_
      rintro e w2 ⟨v2, rfl, o2, b2⟩
      have o2 := Lib.hid o2
      have h2lt := Lib.hid (fun k hk => (o2.out.lt k hk).1)
      have hn2 := Lib.hid (ints_of_own o2.out)
      obtain ⟨a2, cp2, rfl⟩ := hn2.out.shape
      have ho' := Lib.hid (own_below ho.out b2 (Nat.le_refl _))
      obtain ⟨zu, zx, zy, zz, hz0, hz1, hz2, hz3, f0, f1, f2, f3⟩ := own_cellSt ho'.out hlt
      have hst := Lib.hid (own_storeSt (s := (.slice a2 xs.length cp2, x, y, z)) ho'.out hlt)
      have hbb := Lib.hid (hbh.out.trans (b2.mono hsb))
      have b2h := Lib.hid b2
      have hs2 := b2.size
      clear b2 ho'
      go_wp2_with fail
      go_roundw
      case rel =>
        have hg := Lib.hid (fun (w0 : World) (i : Nat) (x : Value) => grown_setI w0 w.heap.size i x)
        have hg4 := ((hg.out w2 (ss.length * 4) (.slice a2 xs.length cp2)).trans (hg.out _ (ss.length * 4 + 1) (.int .i64 x))).trans ((hg.out _ (ss.length * 4 + 2) (.int .i64 y)).trans (hg.out _ (ss.length * 4 + 3) (.int .i64 z)))
        refine ⟨ss ++ [(.slice a2 xs.length cp2, x, y, z)], by rw [List.length_append]; exact hlt, by first | (simp; done) | (rw [List.length_append]; go_num) | (simp; omega), ?_, fun i s t hs ht => ?_, ?_, ?_⟩
        · rw [show (ss ++ [(Value.slice a2 xs.length cp2, x, y, z)]).length = ss.length + 1 by simp]
          exact hst.out
        · rcases Nat.lt_or_ge i ss.length with hi | hi
          · rw [List.getElem?_append_left hi] at hs
            obtain ⟨q1, q2, q3⟩ := hel.out i s t hs ht
            refine ⟨q1, ints_grown (q2.below b2h.out (Nat.le_refl _)) hg4 (fun k hk hk2 => ?_), q3⟩
            obtain rfl : w.heap.size = k := by simpa using hk
            exact Nat.lt_irrefl _ (q3 _ hk2)
          · rw [List.getElem?_append_right hi] at hs
            have hi2 : i - ss.length = 0 := by
              rcases Nat.eq_zero_or_pos (i - ss.length) with h | h
              · exact h
              · rw [List.getElem?_eq_none (by simp; omega)] at hs; cases hs
            rw [hi2] at hs
            obtain rfl : (Value.slice a2 xs.length cp2, x, y, z) = s := by simpa using hs
            obtain rfl : i = ss.length := by omega
            rw [hSh.out] at ht
            obtain rfl := Option.some.inj ht
            refine ⟨rfl, ints_grown hn2.out hg4 (fun k hk hk2 => ?_), fun k hk => ?_⟩
            · obtain rfl : w.heap.size = k := by simpa using hk
              have := h2lt.out _ hk2
              omega
            · have := h2lt.out _ hk
              omega
        · repeat (with_reducible refine Below.setCell ?_ (by simp <;> omega) _)
          exact hbb.out
        · simp
          omega
      case measure => simp [intOf]; omega
    · have hkk : ss.length = S.length := by omega
      have hfin := Lib.hid (show Steps wr (.slice (some ⟨w.heap.size, 0, none⟩) S.length S.length) S from by
        rw [hkk, Nat.sub_self, List.replicate_zero, List.append_nil] at ho
        exact steps_of_own ho (fun i s t hs ht => ⟨(hel.out i s t hs ht).1, (hel.out i s t hs ht).2.1⟩))
      rw [hkk]
      clear ho hkk
      go_wp2_with fail
      go_ret
      exact ⟨_, rfl, hfin.out, hb⟩
end Go.Proofs.Ytggelkhfkhbgmaa
