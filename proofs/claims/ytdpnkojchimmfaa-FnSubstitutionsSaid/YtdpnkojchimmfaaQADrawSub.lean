/- What the laws draw out of a code: a substitution; a formula with a part put in. -/
import Derived.Test.YtdpnkojchimmfaaQADrawAny

namespace Go.Proofs.Ytdpnkojchimmfaa
open Go.RowKit Go.Deep
set_option linter.unusedVariables false

/-- Six rows, none of them empty. -/
structure Six (K : Nat) (w : World) (v : Value) (ss : List Sl) : Prop where
  g : Grow K w v ss
  len : ss.length = 6
  el : ∀ s ∈ ss, 0 < s.2.length ∧ s.2.length ≤ 1000
theorem Six.turned {K b : Nat} {w w' : World} {v : Value} {ss : List Sl} (h : Six K w v ss) (ht : Turned b (b + 1) w w') (hb : b < K) : Six K w' v ss := ⟨h.g.turned ht hb, h.len, h.el⟩
theorem Six.fs {K : Nat} {w : World} {v : Value} {ss : List Sl} (h : Six K w v ss) : Fs w v (ss.map Prod.snd) := ⟨ss, h.g.slices, fun s hs => nodes_of_own (h.g.row s hs), rfl⟩
theorem Six.lay {K b g n cap u : Nat} {w w1 : World} {ss : List Sl} {s : Sl} (h : Six K w (.slice (some ⟨g, 0, none⟩) n cap) ss) (hsn : ss.length = n) (ht : Turned b (b + 1) w w1) (hbK : b < K) (hr : w1.ownsRow w.heap.size 41 2 (slV s) s.2.length (cellsN s.2)) (h1 : 0 < s.2.length) (h2 : s.2.length ≤ 1000) :
    Six K (w1.setCell ⟨g, u, none⟩ (slV s)) (.slice (some ⟨g, 0, none⟩) n cap) (ss.set u s) :=
  ⟨h.g.lay hsn ht hbK hr, by rw [List.length_set]; exact h.len, fun t ht' => by
    rcases List.mem_or_eq_of_mem_set ht' with ht' | rfl
    · exact h.el t ht'
    · exact ⟨h1, h2⟩⟩
theorem Six.shape {K : Nat} {w : World} {v : Value} {ss : List Sl} (h : Six K w v ss) : ∃ g cap, v = .slice (some ⟨g, 0, none⟩) 6 cap ∧ 6 ≤ cap ∧ K ≤ g ∧ g < w.heap.size := by
  have ho := h.g.own
  rw [h.len] at ho
  obtain ⟨g, cap, rfl, h1, h2⟩ := World.ownsRow.form ho (by omega)
  have hl := ho.lt g rfl
  rcases ho.2 with ⟨h2, _⟩ | ⟨g', cap', cur, hv, hB, hg, hc, hm, hs, ht⟩
  · cases h2
  · obtain ⟨rfl, rfl⟩ : g = g' ∧ cap = cap' := by simpa using hv
    exact ⟨g, cap, rfl, hc, hl.1, hl.2⟩
theorem Six.cell {K g cap : Nat} {w : World} {ss : List Sl} (h : Six K w (.slice (some ⟨g, 0, none⟩) 6 cap) ss) {u : Nat} (hu : u < 6) : ∃ s, s ∈ ss ∧ w.cell? ⟨g, u, none⟩ = some (slV s) ∧ w.frozen? ⟨g, u, none⟩ = false := by
  have ho := h.g.own
  rw [h.len] at ho
  have hl : u < ss.length := by rw [h.len]; exact hu
  refine ⟨ss[u], List.getElem_mem hl, ?_, ho.frozenAt u⟩
  rw [ho.cellAt u (by omega), List.getElem?_map, List.getElem?_eq_getElem hl]
  rfl
theorem fs_tail {w : World} {g cap : Nat} {Is : List (List Nd)} (h : Fs w (.slice (some ⟨g, 0, none⟩) 6 cap) Is) (hl : Is.length = 6) : Fs w (.slice (some ⟨g, 1, none⟩) 5 (cap - 1)) (Is.drop 1) := by
  obtain ⟨ss, h1, h2, h3⟩ := h
  have hsl : ss.length = 6 := by have := congrArg List.length h3; simpa [hl] using this
  refine ⟨ss.drop 1, ?_, fun s hs => h2 s (List.mem_of_mem_drop hs), by rw [← h3, List.map_drop]⟩
  obtain ⟨q1, q2, a, c, b', o', hv, hc, ha, hcell⟩ := h1
  obtain rfl := ha (by omega)
  rw [hsl] at hv hc
  obtain ⟨⟨rfl, rfl⟩, rfl⟩ : (g = b' ∧ 0 = o') ∧ cap = c := by simpa using hv
  have e5 : (ss.drop 1).length = 5 := by rw [List.length_drop, hsl]
  unfold Slices
  rw [e5]
  refine ⟨by simp [hsl], by unfold maxLen; omega, some ⟨g, 1, none⟩, cap - 1, g, 1, rfl, by omega, fun _ => rfl, fun i u hu => ?_⟩
  have h9 := hcell (1 + i) u (by rw [← hu, List.map_drop, List.getElem?_drop])
  rw [show 1 + i = 0 + (1 + i) by omega]
  exact h9

set_option maxHeartbeats 4000000 in
theorem l03Images_any (w0 : World) (b : Nat) (cv : Value) (zs : List Int) (hB : Bytes w0 cv zs) (hL : zs.length ≤ 4096) (w : World) (hs : St w0 b cv zs.length w) :
    Calls Try.prog 40 #[.pointer (some ⟨b, 0, none⟩), .int .i64 6] w fun e w' => (∃ v Is, e = .returned v ∧ Hid (Fs w' v Is)) ∧ Hid (St w0 b cv zs.length w') ∧ Hid (Turned b (b + 1) w w') := by
  have hnext := Lib.hid (fun (k : Int) (W : World) (hW : St w0 b cv zs.length W) (k1 : 1 ≤ k) (k2 : k ≤ 9223372036854775807) => l01Next_any w0 b cv zs k W hB hW k1 k2 hL)
  have hdraw := Lib.hid (fun (m : Int) (m1 : 1 ≤ m) (m2 : m ≤ 100) (W : World) (hW : St w0 b cv zs.length W) => l02Draw_any w0 b cv zs 3 hB hL (by omega) (by omega) 100 m m1 (by omega) m2 W hW)
  have hbend := Lib.hid (fun (v : Value) (ns : List Nd) (W : World) (hW : St w0 b cv zs.length W) (h : Nodes W v ns) (hp : 0 < ns.length) (hn : ns.length ≤ 1000) => l02Bend_any w0 b cv zs hB hL v ns W hW h hp hn)
  have hbl := hs.lt
  have hs := Lib.hid hs
  clear hB
  go_enter Try.func40, Try.ntmps40
  go_wp2_with fail
  refine (l03SelfG_any _).mono ?_
  rintro e w1 ⟨v1, ss1, rfl, hG, hss, b1⟩
  have h61 : ss1.length = 6 := by have := congrArg List.length hss; simpa [selfL] using this
  have hx1 : Six w.heap.size w1 v1 ss1 := ⟨hG, h61, fun s hs' => by
    have hm : s.2 ∈ selfL 6 := by rw [← hss]; exact List.mem_map_of_mem hs'
    simp only [selfL, List.mem_map] at hm
    obtain ⟨i, _, e⟩ := hm
    rw [← e]; simp⟩
  obtain ⟨g, cap, rfl, hcap, hg0, hg1⟩ := hx1.shape
  have hx1 := Lib.hid hx1
  have hs1 := Lib.hid (hs.out.below b1 (Nat.le_refl _))
  have t1 := Lib.hid (Turned.of_below (lo := b) (hi := b + 1) b1 (Nat.le_refl _))
  clear hG hss h61 b1 hs
  go_wp2_with fail
  go_loopw [6] (fun i wr => ∃ (k : Nat) (ss : List Sl), k ≤ 6 ∧ i = .int .i64 k ∧ Hid (Six w.heap.size wr (.slice (some ⟨g, 0, none⟩) 6 cap) ss) ∧ Hid (St w0 b cv zs.length wr) ∧ Hid (Turned b (b + 1) w wr)) (fun i _ => 6 - (intOf i).toNat)
  case atStart => exact ⟨0, ss1, by omega, rfl, hx1, hs1, t1⟩
  case round =>
    clear hx1 hs1 t1
    obtain ⟨k, ss, hk, rfl, hx, hs, ht⟩ := hrel
    by_cases hlt : k < 6
    · have hki : (k : Int) < 6 := by omega
      go_wp2_with fail
      refine (hnext.out 2 _ hs.out (by omega) (by omega)).mono ?_
      rintro e w2 ⟨⟨x, rfl, x0, x1⟩, hs2, t2⟩
      have hs2 := Lib.hid hs2
      have hx2 := Lib.hid (hx.out.turned t2 hbl)
      have t2 := Lib.hid (ht.out.trans t2)
      clear hx hs ht
      by_cases h0 : x = 0
      · subst h0
        go_wp2_with fail
        refine (hnext.out 6 _ hs2.out (by omega) (by omega)).mono ?_
        rintro e w3 ⟨⟨y, rfl, y0, y1⟩, hs3, t3⟩
        have hs3 := Lib.hid hs3
        have hx3 := Lib.hid (hx2.out.turned t3 hbl)
        have t3 := Lib.hid (t2.out.trans t3)
        clear hx2 hs2 t2
        go_wp2_with fail
        refine (hdraw.out (1 + y) (by omega) (by omega) _ hs3.out).mono ?_
        rintro e w4 ⟨⟨v4, ns4, rfl, hm4⟩, hs4, t4⟩
        have hl4 := hm4.out.le
        obtain ⟨a4, c4, hv4⟩ := (nodes_of_own hm4.out.own).shape
        subst hv4
        obtain ⟨s9, _, hcell, hfr⟩ := (hx3.out.turned t4.out hbl).cell hlt
        have hx5 := Lib.hid (show Six w.heap.size (w4.setCell ⟨g, k, none⟩ (.slice a4 ns4.length c4)) (.slice (some ⟨g, 0, none⟩) 6 cap) (ss.set k ((a4, ns4.length, c4), ns4)) from hx3.out.lay (u := k) (s := ((a4, ns4.length, c4), ns4)) hx3.out.len t4.out hbl hm4.out.own hm4.out.pos (by simp only; omega))
        have hs5 := Lib.hid (hs4.out.set hg0 hbl k (.slice a4 ns4.length c4))
        have t5 := Lib.hid ((t3.out.trans t4.out).put hg0 k (.slice a4 ns4.length c4))
        clear hx3 hs3 t3 hs4 t4 hm4 hl4
        generalize ns4.length = l4 at *
        go_wp2_with fail
        go_roundw
        case rel => exact ⟨k + 1, _, by omega, by go_num, hx5, hs5, t5⟩
        case measure => simp [intOf]; omega
      · have e0 : (x == 0) = false := by rw [beq_eq_false_iff_ne]; exact h0
        clear h0
        go_wp2_with fail
        go_roundw
        case rel => exact ⟨k + 1, _, by omega, by go_num, hx2, hs2, t2⟩
        case measure => simp [intOf]; omega
    · obtain rfl : k = 6 := by omega
      go_wp2_with fail
      refine (hnext.out 40 _ hs.out (by omega) (by omega)).mono ?_
      rintro e w2 ⟨⟨x, rfl, x0, x1⟩, hs2, t2⟩
      have hs2 := Lib.hid hs2
      have hx2 := Lib.hid (hx.out.turned t2 hbl)
      have t2 := Lib.hid (ht.out.trans t2)
      clear hx hs ht
      by_cases h0 : x = 0
      · subst h0
        have hf2 := Lib.hid (fs_tail hx2.out.fs (by rw [List.length_map]; exact hx2.out.len))
        have hc1 : ¬ (cap = 1) := by omega
        have hci : (1 : Int) ≤ (cap : Int) := by omega
        go_wp2_with fail
        go_ret
        first | exact ⟨⟨_, _, rfl, hf2⟩, hs2, t2⟩ | exact ⟨⟨_, rfl, _, hf2⟩, hs2, t2⟩
      · have e0 : (x == 0) = false := by rw [beq_eq_false_iff_ne]; exact h0
        clear h0
        by_cases h1 : x = 1
        · subst h1
          clear e0
          obtain ⟨s9, hs9, hcell, hfr⟩ := hx2.out.cell (u := 0) (by omega)
          have hn9 := Lib.hid (nodes_of_own (hx2.out.g.row s9 hs9))
          have hl9 := hx2.out.el s9 hs9
          generalize slV s9 = v9 at *
          go_wp2_with fail
          refine (hbend.out _ s9.2 _ hs2.out hn9.out hl9.1 hl9.2).mono ?_
          rintro e w3 ⟨⟨v3, ns3, rfl, hm3⟩, hs3, t3⟩
          obtain ⟨a3, c3, hv3⟩ := (nodes_of_own hm3.out.own).shape
          subst hv3
          have hx3 := Lib.hid (hx2.out.g.turned t3.out hbl)
          obtain ⟨s8, _, hcell3, hfr3⟩ := (hx2.out.turned t3.out hbl).cell (u := 0) (by omega)
          have hx5 := Lib.hid (show Grow w.heap.size (w3.setCell ⟨g, 0, none⟩ (.slice a3 ns3.length c3)) (.slice (some ⟨g, 0, none⟩) 6 cap) (ss.set 0 ((a3, ns3.length, c3), ns3)) from hx2.out.g.lay (u := 0) (s := ((a3, ns3.length, c3), ns3)) hx2.out.len t3.out hbl hm3.out.own)
          have hs5 := Lib.hid (hs3.out.set hg0 hbl 0 (.slice a3 ns3.length c3))
          have t5 := Lib.hid ((t2.out.trans t3.out).put hg0 0 (.slice a3 ns3.length c3))
          have hf5 := Lib.hid (show Fs _ _ _ from ⟨_, hx5.out.slices, fun s hs => nodes_of_own (hx5.out.row s hs), rfl⟩)
          clear hx2 hs2 t2 hs3 t3 hm3 hl9 hn9 hx3 hx5 hcell
          generalize ns3.length = l3 at *
          go_wp2_with fail
          go_ret
          first | exact ⟨⟨_, _, rfl, hf5⟩, hs5, t5⟩ | exact ⟨⟨_, rfl, _, hf5⟩, hs5, t5⟩
        · have e1 : (x == 1) = false := by rw [beq_eq_false_iff_ne]; exact h1
          clear h1
          have hf2 := Lib.hid hx2.out.fs
          go_wp2_with fail
          go_ret
          first | exact ⟨⟨_, _, rfl, hf2⟩, hs2, t2⟩ | exact ⟨⟨_, rfl, _, hf2⟩, hs2, t2⟩

set_option maxHeartbeats 1000000 in
theorem drawSubstituteFormula_any (cv : Value) (zs : List Int) (w : World) (hB : Bytes w cv zs) (hL : zs.length ≤ 4096) :
    Calls Try.prog 16 #[cv] w fun e w' => (∃ va a vi Is, e = .returned (.tuple #[va, vi]) ∧ Hid (Nodes w' va a) ∧ Hid (Fs w' vi Is)) ∧ Below w.heap.size w w' := by
  have h1 := Lib.hid (l01From_any cv zs w hB hL)
  have h2 := Lib.hid (fun W hW => l02Any_any w w.heap.size cv zs 4 hB hL (by omega) (by omega) 10 (by omega) (by omega) W hW)
  have h3 := Lib.hid (fun W hW => l03Images_any w w.heap.size cv zs hB hL W hW)
  clear hB
  go_enter Try.func16, Try.ntmps16
  go_wp2_with fail
  refine h1.out.mono ?_
  rintro e w1 ⟨rfl, hs1⟩
  have hlt := hs1.lt
  have hs1 := Lib.hid hs1
  go_wp2_with fail
  refine (h2.out _ hs1.out).mono ?_
  rintro e w2 ⟨⟨va, a, rfl, hm⟩, hs2, t2⟩
  go_wp2_with fail
  refine (h3.out _ hs2.out).mono ?_
  rintro e w3 ⟨⟨vi, Is, rfl, hF⟩, hs3, t3⟩
  have hn := Lib.hid (nodes_of_own (hm.out.turned t3.out hlt).own)
  have hbel := Lib.hid hs3.out.bel
  go_wp2_with fail
  go_ret2
  first | exact ⟨⟨_, _, _, _, rfl, hn, hF⟩, hbel.out⟩ | exact ⟨⟨_, _, _, rfl, hn, _, hF⟩, hbel.out⟩
end Go.Proofs.Ytdpnkojchimmfaa
