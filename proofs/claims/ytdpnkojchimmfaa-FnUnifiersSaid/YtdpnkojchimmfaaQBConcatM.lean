/- Lists of formulas in new memory: the substitution that replaces one variable. -/
import Derived.Test.YtdpnkojchimmfaaQBSelf
import Derived.Test.YtdpnkojchimmfaaQBParts
import Derived.Test.YtdpnkojchimmfaaQBLists
import Derived.Lib.AppendZeros

namespace Go.Proofs.Ytdpnkojchimmfaa
open Go.RowKit

/-- v reads as a list of formulas. -/
def Fs (w : World) (v : Value) (Is : List (List Nd)) : Prop := ∃ ss : List Sl, Slices w v ss ∧ (∀ s ∈ ss, Nodes w (slV s) s.2) ∧ ss.map (·.2) = Is
theorem Fs.below {w w' : World} {v : Value} {Is : List (List Nd)} {K : Nat} (h : Fs w v Is) (hb : Below K w w') (hk : w.heap.size ≤ K) : Fs w' v Is := by
  obtain ⟨ss, h1, h2, h3⟩ := h
  exact ⟨ss, h1.below hb hk, fun s hs => (h2 s hs).below hb hk, h3⟩

theorem grown_set (w : World) (g o : Nat) (x : Value) : w.grownBy (w.setCell ⟨g, o, none⟩ x) (some g) := ⟨rfl, rfl, rfl, by simp [World.setCell], fun j _ hne => Below.heap_setCell _ _ _ _ (by simpa using hne)⟩

theorem OwnFs.set {K g cap u : Nat} {w : World} {ss : List Sl} {s : Sl} (h : OwnFs K w (.slice (some ⟨g, 0, none⟩) ss.length cap) ss) (_hu : u < ss.length) (hn : Nodes w (slV s) s.2) (hs : (slV s).ownBlock ≠ some g) : Fs (w.setCell ⟨g, u, none⟩ (slV s)) (.slice (some ⟨g, 0, none⟩) ss.length cap) ((ss.map (·.2)).set u s.2) := by
  refine ⟨ss.set u s, ?_, ?_, by rw [List.map_set]⟩
  · have h1 := (h.own.stored u (slV s)).1
    rw [← List.map_set] at h1
    have h2 := reads_of_own h1
    have e : (ss.set u s).length = ss.length := by simp
    unfold Slices
    rw [e]
    exact h2
  · intro t ht
    have hg := grown_set w g u (slV s)
    rcases List.mem_or_eq_of_mem_set ht with ht | rfl
    · exact nodes_grown (h.el t ht) hg fun k hk => by
        obtain rfl : g = k := by simpa using hk
        exact h.ap t ht g rfl
    · exact nodes_grown hn hg fun k hk => by
        obtain rfl : g = k := by simpa using hk
        exact hs

theorem OwnFs.open {K : Nat} {w : World} {v : Value} {ss : List Sl} (h : OwnFs K w v ss) (hp : 0 < ss.length) : ∃ g cap, v = .slice (some ⟨g, 0, none⟩) ss.length cap ∧ K ≤ g ∧ g < w.heap.size := by
  rcases h.own.2 with ⟨rfl, h0⟩ | ⟨g, cap, cur, rfl, hb, hg, _⟩
  · omega
  · exact ⟨g, cap, rfl, hb, (h.own.lt g rfl).2⟩

theorem own_blockN {w : World} {v : Value} {ns : List Nd} (h : Nodes w v ns) (hp : 0 < ns.length) : ∃ k, v.ownBlock = some k ∧ k < w.heap.size := by
  obtain ⟨c, b, o, rfl, _, _, hcell⟩ := h.raw hp
  have hc0 : (cellsN ns)[0]? = some ((cellsN ns)[0]'(by rw [cellsN_length]; omega)) := List.getElem?_eq_getElem _
  exact ⟨b, rfl, World.block_lt_of_cell? w _ (hcell.out 0 _ hc0)⟩

set_option maxHeartbeats 1000000 in
theorem binding_any (u : Nat) (hu : u < 6) (vb : Value) (bs : List Nd) (w : World) (h : Nodes w vb bs) (hp : 0 < bs.length) :
    Calls Try.prog 35 #[.int .i64 (u : Int), vb] w fun e w' => ∃ v, e = .returned v ∧ Fs w' v ((selfL 6).set u bs) ∧ Below w.heap.size w w' := by
  obtain ⟨kb, hkb, hkl⟩ := own_blockN h hp
  obtain ⟨a, c, rfl⟩ := h.shape
  have hv := Lib.hid h
  have hkbh := Lib.hid hkb
  have hklh := Lib.hid hkl
  have hui : (u : Int) < 6 := by omega
  clear h hp hkb hkl
  generalize hm : bs.length = m at *
  have hm := Lib.hid hm
  go_enter Try.func35, Try.ntmps35
  go_wp2_with fail
  refine (identity_any _).mono ?_
  rintro e w1 ⟨v1, ss, rfl, ho, hss, b1⟩
  have hsl : ss.length = 6 := by have := congrArg List.length hss; simpa [selfL] using this
  obtain ⟨g, cap, rfl, hgK, hgl⟩ := ho.open (by omega)
  have hcu := own_cell ho.own (k := u) (by omega)
  obtain ⟨⟨z, _, hcz⟩, hfz⟩ := hcu
  obtain ⟨⟨za, zn, zc⟩, zl⟩ := z
  unfold slV at hcz
  simp only at hcz
  have hset := Lib.hid (ho.set (u := u) (s := ((a, m, c), bs)) (by omega) (hv.out.below b1 (Nat.le_refl _)) (by
    show (slV ((a, m, c), bs)).ownBlock ≠ some g
    rw [show (slV ((a, m, c), bs)).ownBlock = some kb from hkbh.out]
    intro e
    have h1 := hklh.out
    have h2 : kb = g := by simpa using e
    omega))
  have hssh := Lib.hid hss
  have hb2 := Lib.hid (b1.setCell (p := ⟨g, u, none⟩) hgK (.slice a m c))
  rw [hsl] at *
  clear ho hss b1 hgK hgl hsl
  go_wp2_with fail
  go_ret
  refine ⟨_, rfl, ?_, hb2.out⟩
  rw [← hssh.out]
  exact hset.out
end Go.Proofs.Ytdpnkojchimmfaa

/- Walks of what joins lists of nodes: slices.Grow, slices.Concat, and the reference's own appends. -/
namespace Go.Proofs.Ytdpnkojchimmfaa
open Go.RowKit

theorem nodes_oneCell (ns : List Nd) : ∀ u ∈ cellsN ns, u.oneCell' = true := by
  intro u hu
  simp only [cellsN, List.mem_flatMap, encN, List.mem_cons, List.not_mem_nil, or_false] at hu
  obtain ⟨n, _, rfl | rfl⟩ := hu <;> rfl

/-- The source of an append: a list of nodes that lies in older memory, or beside the row. -/
theorem nodes_src {w : World} {b o : Nat} {ns : List Nd} (h : ∀ j q, (cellsN ns)[j]? = some q → w.cell? ⟨b, o + j, none⟩ = some q) : ∀ j q, (cellsN ns)[j]? = some q → w.cell? ((⟨b, o, none⟩ : Addr).add j) = some q := by
  intro j q hq
  rw [Addr.add_lit]
  exact h j q hq

theorem cells_below {w w' : World} {b o : Nat} {cs : List Value} {K : Nat} (h : ∀ j q, cs[j]? = some q → w.cell? ⟨b, o + j, none⟩ = some q) (hb : Below K w w') (hk : w.heap.size ≤ K) : ∀ j q, cs[j]? = some q → w'.cell? ⟨b, o + j, none⟩ = some q := by
  intro j q hq
  have h3 := h j q hq
  have hlt : b < w.heap.size := World.block_lt_of_cell? w _ h3
  exact (hb.cell (p := ⟨b, o + j, none⟩) (by show b < K; omega)).trans h3

theorem l02Pre_any (k : Int) (v : Value) (ns : List Nd) (w : World) (h : Nodes w v ns) (hp : 0 < ns.length) (hn : ns.length ≤ 1000000) :
    Calls Try.prog 79 #[.int .i64 k, v] w fun e w' => ∃ v', e = .returned v' ∧ w'.ownsRow w.heap.size 41 2 v' ((k, 0) :: ns).length (cellsN ((k, 0) :: ns)) ∧ Below w.heap.size w w' := by
  obtain ⟨i0, hi, hz0, hz1, hz2⟩ := info_parts info_node
  obtain ⟨c, b, o, rfl, hc, hcm, hcell⟩ := h.raw hp
  have hlen := Lib.hid (cellsN_length ns)
  have hl0 := Lib.hid (World.ownsRow_lit (e := 41) (base := w.heap.size) (size := 2) w #[.int .i64 k, .int .i64 0] 1 (Nat.le_refl _) (by simp [maxLen]) rfl)
  have hba := Lib.hid ((Below.refl w.heap.size w).alloc (Nat.le_refl _) (.cells #[.int .i64 k, .int .i64 0] 41))
  have hsrc := Lib.hid (nodes_src (cells_below hcell.out hba.out (Nat.le_refl _)))
  have hone := Lib.hid (nodes_oneCell ns)
  clear h
  generalize hm : ns.length = m at *
  have hm := Lib.hid hm
  go_enter Try.func79, Try.ntmps79
  go_wp2_with (at_builtin; refine wpList_append_own _ rfl _ _ 27 rfl w.heap.size 41 i0 (.agg #[.int .i64 0, .int .i64 0]) 2 16 Try.underlying27 hi hz0 hz1 hz2 rfl (by decide) _ _ _ rfl hl0.out ⟨b, o, none⟩ m c (cellsN ns) rfl hlen.out hsrc.out hone.out (by unfold maxLen; omega) (by omega) (by simp) ?_; intro v' w1 hown' hgrow _)
  go_ret
  refine ⟨v', rfl, ?_, ?_⟩
  · rw [show m + 1 = 1 + m by omega]
    exact hown'
  · exact hba.out.grown hgrow (by simp) (fun j hj => (hl0.out.lt j hj).1)


/-- All nodes of a list of lists. -/
def catL (ss : List Sl) : List Nd := ss.flatMap (·.2)
theorem catL_succ {ss : List Sl} {k : Nat} {s : Sl} (h : ss[k]? = some s) : catL (ss.take (k + 1)) = catL (ss.take k) ++ s.2 := by
  have e : ss.take (k + 1) = ss.take k ++ [s] := by rw [List.take_add_one, h]; rfl
  rw [e]
  simp [catL, List.flatMap_append]
theorem catL_le (ss : List Sl) (k : Nat) : (catL (ss.take k)).length ≤ (catL ss).length := by
  have : catL ss = catL (ss.take k) ++ catL (ss.drop k) := by
    unfold catL
    rw [← List.flatMap_append, List.take_append_drop]
  rw [this, List.length_append]
  omega

theorem items_opened {w : World} {v : Value} {ss : List Sl} (h : Slices w v ss) (hs : ∀ s ∈ ss, Nodes w (slV s) s.2 ∧ 0 < s.2.length) : ss.length ≤ maxLen ∧ ∃ a c b o, v = .slice a ss.length c ∧ ss.length ≤ c ∧ (ss.length ≤ 0 ∨ 0 < ss.length ∧ a = some ⟨b, o, none⟩) ∧
    Hid (∀ k, k < ss.length → ∃ m b' o' c' xs, w.cell? ⟨b, o + k, none⟩ = some (.slice (some ⟨b', o', none⟩) m c') ∧ 0 < m ∧ m ≤ c' ∧ (catL (ss.take k)).length + m ≤ (catL ss).length ∧ (catL (ss.take (k + 1))).length = (catL (ss.take k)).length + m ∧ Hid (xs.length = m ∧ catL (ss.take (k + 1)) = catL (ss.take k) ++ xs ∧ ∀ j q, (cellsN xs)[j]? = some q → w.cell? ⟨b', o' + j, none⟩ = some q)) := by
  obtain ⟨hm, a, c, b, o, hv, hc, h0, hcell⟩ := h.opened
  refine ⟨hm, a, c, b, o, hv, hc, h0, fun k hk => ?_⟩
  obtain ⟨xa, xn, xc, xs, hx, hcx⟩ := hcell.out k hk
  obtain ⟨hn, hp⟩ := hs _ (List.mem_of_getElem? hx)
  obtain ⟨c', b', o', he, hc', _, hq⟩ := hn.raw hp
  simp only [slV, Value.slice.injEq] at he hp hc'
  obtain ⟨rfl, rfl, rfl⟩ := he
  have h1 := catL_succ hx
  have h2 := catL_le ss (k + 1)
  have h3 := congrArg List.length h1
  rw [List.length_append] at h3
  simp only at h1 h3
  exact ⟨_, b', o', xc, xs, hcx, hp, hc', by omega, h3, rfl, h1, hq.out⟩

end Go.Proofs.Ytdpnkojchimmfaa
