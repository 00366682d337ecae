/- What the laws draw out of a code: numbers, of which only the range is wanted. -/
import Derived.Test.YtdpnkojchimmfaaQBMasks
import Derived.Test.YtdpnkojchimmfaaQBRelMathBM
import Derived.Deep.RegionHeld3
import Derived.Laws.BitsAllLaws

namespace Go.Proofs.Ytdpnkojchimmfaa
open Go.RowKit

/-- A slice of bytes. -/
def Bytes (w : World) (v : Value) (zs : List Int) : Prop := Reads w 1 v zs.length (zs.map (Value.int .u8)) ∧ ∀ z ∈ zs, 0 ≤ z ∧ z < 256
theorem Bytes.below {w w' : World} {v : Value} {zs : List Int} {K : Nat} (h : Bytes w v zs) (hb : Below K w w') (hk : w.heap.size ≤ K) : Bytes w' v zs := ⟨h.1.below hb hk, h.2⟩
theorem Bytes.opened {w : World} {v : Value} {zs : List Int} (h : Bytes w v zs) : zs.length ≤ maxLen ∧ ∃ a c b o, v = .slice a zs.length c ∧ zs.length ≤ c ∧ (zs.length ≤ 0 ∨ 0 < zs.length ∧ a = some ⟨b, o, none⟩) ∧
    Hid (∀ k, k < zs.length → ∃ z, 0 ≤ z ∧ z < 256 ∧ b < w.heap.size ∧ w.cell? ⟨b, o + k, none⟩ = some (.int .u8 z)) := by
  obtain ⟨⟨_, h2, a, c, b, o, hv, hc, ha, hcell⟩, hz⟩ := h
  refine ⟨h2, a, c, b, o, hv, hc, ?_, fun k hk => ⟨zs[k], (hz _ (List.getElem_mem _)).1, (hz _ (List.getElem_mem _)).2, ?_, ?_⟩⟩
  · rcases Nat.eq_zero_or_pos zs.length with h | h
    · exact .inl (by omega)
    · exact .inr ⟨h, ha h⟩
  · have h3 := hcell k (.int .u8 zs[k]) (by simp [hk])
    exact World.block_lt_of_cell? w _ h3
  · exact hcell k _ (by simp [hk])

/-- The source's box: the code, how much of it was read, the hash. -/
def Src (w : World) (b : Nat) (cv : Value) (t h : Int) : Prop := w.heap[b]? = some (.cells #[cv, .int .i64 t, .int .u64 h] 83 (0, 0))
theorem Src.c0 {w : World} {b : Nat} {cv : Value} {t h : Int} (s : Src w b cv t h) : w.cell? ⟨b, 0, none⟩ = some cv := by unfold Src at s; simp [World.cell?, s]
theorem Src.c1 {w : World} {b : Nat} {cv : Value} {t h : Int} (s : Src w b cv t h) : w.cell? ⟨b, 1, none⟩ = some (.int .i64 t) := by unfold Src at s; simp [World.cell?, s]
theorem Src.c2 {w : World} {b : Nat} {cv : Value} {t h : Int} (s : Src w b cv t h) : w.cell? ⟨b, 2, none⟩ = some (.int .u64 h) := by unfold Src at s; simp [World.cell?, s]
theorem Src.fz {w : World} {b : Nat} {cv : Value} {t h : Int} (s : Src w b cv t h) (k : Nat) : w.frozen? ⟨b, k, none⟩ = false := by unfold Src at s; simp [World.frozen?, s]
theorem Src.set2 {w : World} {b : Nat} {cv : Value} {t h : Int} (s : Src w b cv t h) (h' : Int) : Src (w.setCell ⟨b, 2, none⟩ (.int .u64 h')) b cv t h' := by
  unfold Src at *
  simp [World.setCell, Array.getElem?_modify, s]
theorem Src.set1 {w : World} {b : Nat} {cv : Value} {t h : Int} (s : Src w b cv t h) (t' : Int) : Src (w.setCell ⟨b, 1, none⟩ (.int .i64 t')) b cv t' h := by
  unfold Src at *
  simp [World.setCell, Array.getElem?_modify, s]
theorem Src.drew {w : World} {b : Nat} {cv : Value} {t h : Int} (s : Src w b cv t h) (n : Nat) : Src (w.drewN n) b cv t h := s
theorem Src.below {w w' : World} {b K : Nat} {cv : Value} {t h : Int} (s : Src w b cv t h) (hb : Below K w w') (hk : b < K) : Src w' b cv t h := by
  unfold Src at *
  rw [hb.block b hk]
  exact s
theorem Src.lt {w : World} {b : Nat} {cv : Value} {t h : Int} (s : Src w b cv t h) : b < w.heap.size := (Array.getElem?_eq_some_iff.1 s).1

/-- The box in block b over a code that was there in w0. -/
structure St (w0 : World) (b : Nat) (cv : Value) (L : Nat) (w : World) : Prop where
  src : ∃ t h : Int, Src w b cv t h ∧ 0 ≤ t ∧ t ≤ L ∧ 0 ≤ h ∧ h < 18446744073709551616
  bel : Below w0.heap.size w0 w
  le : w0.heap.size ≤ b

theorem Turned.drewN (lo hi : Nat) (w : World) (n : Nat) : Turned lo hi w (w.drewN n) := ⟨rfl, rfl, rfl, Nat.le_refl _, fun _ _ _ => rfl⟩
theorem Turned.set {lo hi : Nat} {w w' : World} (h : Turned lo hi w w') (b k : Nat) (x : Value) (h1 : lo ≤ b) (h2 : b < hi) : Turned lo hi w (w'.setCell ⟨b, k, none⟩ x) :=
  h.trans ⟨rfl, rfl, rfl, by simp [World.setCell], fun j _ hj2 => Below.heap_setCell _ _ _ _ (by show j ≠ b; omega)⟩
theorem Turned.cell {lo hi : Nat} {w w' : World} (h : Turned lo hi w w') {g j : Nat} {x : Value} (hx : w.cell? ⟨g, j, none⟩ = some x) (hg : g < lo ∨ hi ≤ g) : w'.cell? ⟨g, j, none⟩ = some x := by
  have h1 := World.block_lt_of_cell? w _ hx
  rw [World.cell?_of_block (h.block g h1 hg)]
  exact hx
theorem cell_other {w : World} {b bb k j : Nat} (x : Value) (hne : bb < b) : (w.setCell ⟨b, k, none⟩ x).cell? ⟨bb, j, none⟩ = w.cell? ⟨bb, j, none⟩ :=
  World.cell?_of_block (Below.heap_setCell _ _ _ _ (by show bb ≠ b; omega))

theorem low24 (a : Int) (h0 : 0 ≤ a) (h1 : a < 18446744073709551616) : ∃ q : Int, bits BinOp.and IntKind.u64 (a / 8589934592) 16777215 = q ∧ 0 ≤ q ∧ q < 16777216 := by
  obtain ⟨A, rfl⟩ := Int.eq_ofNat_of_zero_le h0
  have e : ((A : Int) / 8589934592) = ((A / 8589934592 : Nat) : Int) := by omega
  rw [e]
  refine ⟨_, u64_and_nat _ 16777215 (by omega) (by omega), by omega, ?_⟩
  have := Nat.and_le_right (n := A / 8589934592) (m := 16777215)
  omega

set_option maxHeartbeats 2000000 in
theorem l01Next_any (w0 : World) (b : Nat) (cv : Value) (zs : List Int) (n : Int) (w : World) (hB : Bytes w0 cv zs) (hs : St w0 b cv zs.length w) (hn : 1 ≤ n) (hn2 : n ≤ 9223372036854775807) (hL : zs.length ≤ 4096) :
    Calls Try.prog 49 #[.pointer (some ⟨b, 0, none⟩), .int .i64 n] w fun e w' => (∃ x : Int, e = .returned (.int .i64 x) ∧ 0 ≤ x ∧ x < n) ∧ St w0 b cv zs.length w' ∧ Turned b (b + 1) w w' := by
  obtain ⟨t, h, hsrc, ht0, ht1, hh0, hh1⟩ := hs.src
  have hbel := Lib.hid hs.bel
  have hle := hs.le
  have hlt := hsrc.lt
  obtain ⟨_, a, c, bb, oo, rfl, hc, ha, hcell⟩ := hB.opened
  have hsrc := Lib.hid hsrc
  clear hs hB
  have c0 := hsrc.out.c0
  have c1 := hsrc.out.c1
  have c2 := hsrc.out.c2
  have f2 := hsrc.out.fz 2
  have f1 := hsrc.out.fz 1
  have d0 := fun x : Int => (hsrc.out.set2 x).c0
  have d1 := fun x : Int => (hsrc.out.set2 x).c1
  have d2 := fun x : Int => (hsrc.out.set2 x).c2
  have e1 := fun x : Int => (hsrc.out.set2 x).fz 1
  have hnp : ¬ n < 1 := by omega
  have hbd := Lib.hid (fun x : Int => low24 (IntKind.u64.wrap x) (by rw [IntKind.wrap_u64]; omega) (by rw [IntKind.wrap_u64]; omega))
  go_enter Try.func49, Try.ntmps49
  go_wp2_with fail
  have hHb : 0 ≤ IntKind.u64.wrap (IntKind.u64.wrap (h * 6364136223846793005) + 1442695040888963407) ∧ IntKind.u64.wrap (IntKind.u64.wrap (h * 6364136223846793005) + 1442695040888963407) < 18446744073709551616 := by
    rw [IntKind.wrap_u64]; omega
  generalize IntKind.u64.wrap (IntKind.u64.wrap (h * 6364136223846793005) + 1442695040888963407) = H at *
  obtain ⟨q, hq, q0, q1⟩ := low24 H hHb.1 hHb.2
  rw [hq]
  clear hq
  have hw : wrap64 q = q := by unfold wrap64; omega
  rw [hw]
  clear hw
  have hsrcH := Lib.hid (hsrc.out.set2 H)
  replace d0 := d0 H
  replace d1 := d1 H
  replace d2 := d2 H
  replace e1 := e1 H
  have hB0 := Lib.hid ((Turned.refl b (b + 1) w).set b 2 (.int .u64 H) (Nat.le_refl _) (Nat.lt_succ_self _))
  have hB1 := Lib.hid (hbel.out.setCell (p := ⟨b, 2, none⟩) hle (.int .u64 H))
  obtain ⟨T, rfl⟩ := Int.eq_ofNat_of_zero_le ht0
  have hbelh := hbel.out
  generalize hw1 : w.setCell ⟨b, 2, none⟩ (.int .u64 H) = w1 at *
  replace hw1 := Lib.hid hw1
  by_cases hlt2 : T < zs.length
  · obtain ⟨z, z0, z1, hbb, hcz⟩ := hcell.out T hlt2
    obtain rfl : a = some ⟨bb, oo, none⟩ := by rcases ha with ha | ⟨_, ha⟩; · omega
                                               exact ha
    have hcz := (hB1.out.cell (p := ⟨bb, oo + T, none⟩) hbb).trans hcz
    go_wp2_with fail
    go_quiet (fail)
    go_wp2_with fail
    go_quiet (fail)
    go_wp2_with fail
    go_ret
    exact ⟨⟨_, rfl, Int.emod_nonneg _ (by omega), Int.emod_lt_of_pos _ (by omega)⟩, ⟨⟨T + 1, H, (hsrcH.out.drew _).set1 _, by omega, by omega, hHb.1, hHb.2⟩, (hB1.out.trans (below_drewN' _ _)).setCell hle _, hle⟩, (hB0.out.trans (Turned.drewN _ _ _ _)).set b 1 _ (Nat.le_refl _) (Nat.lt_succ_self _)⟩
  · go_wp2_with fail
    go_quiet (fail)
    go_wp2_with fail
    go_ret
    exact ⟨⟨_, rfl, Int.emod_nonneg _ (by omega), Int.emod_lt_of_pos _ (by omega)⟩, ⟨⟨T, H, hsrcH.out.drew _, by omega, ht1, hHb.1, hHb.2⟩, hB1.out.trans (below_drewN' _ _), hle⟩, hB0.out.trans (Turned.drewN _ _ _ _)⟩

set_option maxRecDepth 100000 in
set_option maxHeartbeats 2000000 in
theorem l01From_any (cv : Value) (zs : List Int) (w : World) (hB : Bytes w cv zs) (hL : zs.length ≤ 4096) :
    Calls Try.prog 38 #[cv] w fun e w' => e = .returned (.pointer (some ⟨w.heap.size, 0, none⟩)) ∧ St w w.heap.size cv zs.length w' := by
  obtain ⟨_, a, c, bb, oo, rfl, hc, ha, hcell⟩ := hB.opened
  clear hB
  have hbox : ∀ h : Int, Src (w.alloc (.cells #[.slice a zs.length c, .int .i64 0, .int .u64 h] 83)) w.heap.size (.slice a zs.length c) 0 h := by
    intro h
    show (w.heap.push _)[w.heap.size]? = _
    simp
  have hbox := Lib.hid hbox
  have hh0 : 0 ≤ IntKind.u64.wrap (7129 + IntKind.u64.wrap (zs.length : Int)) ∧ IntKind.u64.wrap (7129 + IntKind.u64.wrap (zs.length : Int)) < 18446744073709551616 := by
    rw [IntKind.wrap_u64, IntKind.wrap_u64]; omega
  have hh0 := Lib.hid hh0
  have hbw := Lib.hid (fun o => (Below.refl w.heap.size w).alloc (Nat.le_refl _) o)
  go_enter Try.func38, Try.ntmps38
  go_wp2_with fail
  go_loopw [4] (fun i wr => ∃ (k : Nat) (h : Int), k ≤ zs.length ∧ i = .int .i64 k ∧ Src wr w.heap.size (.slice a zs.length c) 0 h ∧ 0 ≤ h ∧ h < 18446744073709551616 ∧ Below w.heap.size w wr) (fun i _ => zs.length - (intOf i).toNat)
  case atStart => exact ⟨0, _, Nat.zero_le _, rfl, hbox.out _, by omega, by omega, hbw.out _⟩
  case round =>
    obtain ⟨k, h, hk, rfl, hsrc, h0, h1, hb⟩ := hrel
    by_cases hlt : k < zs.length
    · obtain ⟨z, z0, z1, hbb, hcz⟩ := hcell.out k hlt
      obtain rfl : a = some ⟨bb, oo, none⟩ := by rcases ha with ha | ⟨_, ha⟩; · omega
                                                 exact ha
      have hcz := (hb.cell (p := ⟨bb, oo + k, none⟩) hbb).trans hcz
      have c2 := hsrc.c2
      have f2 := hsrc.fz 2
      have hsh := Lib.hid hsrc
      have hbh := Lib.hid hb
      have hws := Lib.hid (fun x : Int => show 0 ≤ IntKind.u64.wrap x ∧ IntKind.u64.wrap x < 18446744073709551616 by rw [IntKind.wrap_u64]; omega)
      have hk2 : (k : Int) < 4096 := by omega
      clear hsrc
      go_wp2_with fail
      go_region
      all_goals
        go_wp2_with fail
        go_roundw
        case rel => exact ⟨k + 1, _, by omega, by go_num, (hsh.out.drew _).set2 _, (hws.out _).1, (hws.out _).2, (hbh.out.trans (below_drewN' _ _)).setCell (Nat.le_refl _) _⟩
        case measure => simp [intOf]; omega
    · obtain rfl : k = zs.length := by omega
      go_wp2_with fail
      go_ret
      exact ⟨rfl, ⟨0, h, hsrc, by omega, by omega, h0, h1⟩, hb, Nat.le_refl _⟩
end Go.Proofs.Ytdpnkojchimmfaa
