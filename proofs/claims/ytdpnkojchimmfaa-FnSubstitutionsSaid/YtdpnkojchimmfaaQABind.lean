/- Lists of formulas in new memory: the substitution that replaces one variable. -/
import Derived.Test.YtdpnkojchimmfaaQASelf
import Derived.Test.YtdpnkojchimmfaaQAParts

namespace Go.Proofs.Ytdpnkojchimmfaa
open Go.RowKit

/-- v reads as a list of formulas. -/
def Fs (w : World) (v : Value) (Is : List (List Nd)) : Prop := ∃ ss : List Sl, Slices w v ss ∧ (∀ s ∈ ss, Nodes w (slV s) s.2) ∧ ss.map (·.2) = Is
theorem Fs.below {w w' : World} {v : Value} {Is : List (List Nd)} {K : Nat} (h : Fs w v Is) (hb : Below K w w') (hk : w.heap.size ≤ K) : Fs w' v Is := by
  obtain ⟨ss, h1, h2, h3⟩ := h
  exact ⟨ss, h1.below hb hk, fun s hs => (h2 s hs).below hb hk, h3⟩

theorem grown_set (w : World) (g o : Nat) (x : Value) : w.grownBy (w.setCell ⟨g, o, none⟩ x) (some g) := ⟨rfl, rfl, rfl, by simp [World.setCell], fun j _ hne => Below.heap_setCell _ _ _ _ (by simpa using hne)⟩

theorem OwnFs.set {K g cap u : Nat} {w : World} {ss : List Sl} {s : Sl} (h : OwnFs K w (.slice (some ⟨g, 0, none⟩) ss.length cap) ss) (_hu : u < ss.length) (hn : Nodes w (slV s) s.2) (hs : (slV s).ownBlock ≠ some g) : Fs (w.setCell ⟨g, u, none⟩ (slV s)) (.slice (some ⟨g, 0, none⟩) ss.length cap) ((ss.map (·.2)).set u s.2) := by
  refine ⟨ss.set u s, ?_, ?_, by rw [List.map_set]⟩
  · have h1 := (h.own.stored u (slV s)).1
    rw [← List.map_set] at h1
    have h2 := reads_of_own h1
    have e : (ss.set u s).length = ss.length := by simp
    unfold Slices
    rw [e]
    exact h2
  · intro t ht
    have hg := grown_set w g u (slV s)
    rcases List.mem_or_eq_of_mem_set ht with ht | rfl
    · exact nodes_grown (h.el t ht) hg fun k hk => by
        obtain rfl : g = k := by simpa using hk
        exact h.ap t ht g rfl
    · exact nodes_grown hn hg fun k hk => by
        obtain rfl : g = k := by simpa using hk
        exact hs

theorem OwnFs.open {K : Nat} {w : World} {v : Value} {ss : List Sl} (h : OwnFs K w v ss) (hp : 0 < ss.length) : ∃ g cap, v = .slice (some ⟨g, 0, none⟩) ss.length cap ∧ K ≤ g ∧ g < w.heap.size := by
  rcases h.own.2 with ⟨rfl, h0⟩ | ⟨g, cap, cur, rfl, hb, hg, _⟩
  · omega
  · exact ⟨g, cap, rfl, hb, (h.own.lt g rfl).2⟩

theorem own_blockN {w : World} {v : Value} {ns : List Nd} (h : Nodes w v ns) (hp : 0 < ns.length) : ∃ k, v.ownBlock = some k ∧ k < w.heap.size := by
  obtain ⟨c, b, o, rfl, _, _, hcell⟩ := h.raw hp
  have hc0 : (cellsN ns)[0]? = some ((cellsN ns)[0]'(by rw [cellsN_length]; omega)) := List.getElem?_eq_getElem _
  exact ⟨b, rfl, World.block_lt_of_cell? w _ (hcell.out 0 _ hc0)⟩

set_option maxHeartbeats 1000000 in
theorem binding_any (u : Nat) (hu : u < 6) (vb : Value) (bs : List Nd) (w : World) (h : Nodes w vb bs) (hp : 0 < bs.length) :
    Calls Try.prog 35 #[.int .i64 (u : Int), vb] w fun e w' => ∃ v, e = .returned v ∧ Fs w' v ((selfL 6).set u bs) ∧ Below w.heap.size w w' := by
  obtain ⟨kb, hkb, hkl⟩ := own_blockN h hp
  obtain ⟨a, c, rfl⟩ := h.shape
  have hv := Lib.hid h
  have hkbh := Lib.hid hkb
  have hklh := Lib.hid hkl
  have hui : (u : Int) < 6 := by omega
  clear h hp hkb hkl
  generalize hm : bs.length = m at *
  have hm := Lib.hid hm
  go_enter Try.func35, Try.ntmps35
  go_wp2_with fail
  refine (identity_any _).mono ?_
  rintro e w1 ⟨v1, ss, rfl, ho, hss, b1⟩
  have hsl : ss.length = 6 := by have := congrArg List.length hss; simpa [selfL] using this
  obtain ⟨g, cap, rfl, hgK, hgl⟩ := ho.open (by omega)
  have hcu := own_cell ho.own (k := u) (by omega)
  obtain ⟨⟨z, _, hcz⟩, hfz⟩ := hcu
  obtain ⟨⟨za, zn, zc⟩, zl⟩ := z
  unfold slV at hcz
  simp only at hcz
  have hset := Lib.hid (ho.set (u := u) (s := ((a, m, c), bs)) (by omega) (hv.out.below b1 (Nat.le_refl _)) (by
    show (slV ((a, m, c), bs)).ownBlock ≠ some g
    rw [show (slV ((a, m, c), bs)).ownBlock = some kb from hkbh.out]
    intro e
    have h1 := hklh.out
    have h2 : kb = g := by simpa using e
    omega))
  have hssh := Lib.hid hss
  have hb2 := Lib.hid (b1.setCell (p := ⟨g, u, none⟩) hgK (.slice a m c))
  rw [hsl] at *
  clear ho hss b1 hgK hgl hsl
  go_wp2_with fail
  go_ret
  refine ⟨_, rfl, ?_, hb2.out⟩
  rw [← hssh.out]
  exact hset.out
end Go.Proofs.Ytdpnkojchimmfaa
