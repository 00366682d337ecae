/- MatchFormula: the reference's walk. -/
import Derived.Test.YtdpnkojchimmfaaQBMatchFormM

namespace Go.Proofs.Ytdpnkojchimmfaa
open Go.RowKit Go.Deep

theorem finM_set {M : Im} {U : Nat} {d : List Nd} (hM : M.length = 6) (hU : U < 6) : finM (M.set U (some d)) = (finM M).set U d := by
  apply List.ext_getElem?
  intro i
  unfold finM
  rw [List.getElem?_map, List.getElem?_set, List.getElem?_map]
  by_cases hi : i < 6
  · rw [List.getElem?_range hi]
    by_cases e : U = i
    · subst e
      simp [List.getD_eq_getElem?_getD, hU, hM]
    · simp [List.getD_eq_getElem?_getD, e]
  · rw [List.getElem?_eq_none (by simp; omega)]
    by_cases e : U = i
    · omega
    · simp [e]
theorem info_boolM : (Try.prog.info? 4).map (fun i => (i.zero, i.size, i.bytes)) = some (some (.bool false), 1, 1) := by kernel_rfl
theorem finM_none : finM noIm = selfL 6 := by
  unfold finM noIm selfL
  rfl

theorem not_bools {w : World} {g : Nat} {s : Sl} {t : TypeId} (h : Nodes w (slV s) s.2) (hp : 0 < s.2.length) (hg : w.heap[g]? = some (.cells #[.bool false, .bool false, .bool false, .bool false, .bool false, .bool false] t)) : (slV s).ownBlock ≠ some g := by
  obtain ⟨c, b, o, he, _, _, hcell⟩ := h.raw hp
  intro e
  rw [he] at e
  obtain rfl : b = g := by simpa [Value.ownBlock] using e
  obtain ⟨⟨x, y⟩, r, hns⟩ : ∃ n r, s.2 = n :: r := by
    cases hs : s.2 with
    | nil => rw [hs] at hp; cases hp
    | cons n r => exact ⟨n, r, rfl⟩
  have h0 := hcell.out 0 (.int .i64 x) (by rw [hns]; rfl)
  unfold World.cell? at h0
  simp [Addr.add, hg] at h0
  rcases o with _ | _ | _ | _ | _ | _ | o <;> simp at h0
theorem OwnFs.mono {K K1 : Nat} {w : World} {v : Value} {ss : List Sl} (h : OwnFs K1 w v ss) (hK : K ≤ K1) : OwnFs K w v ss := ⟨own_mono h.own hK, h.el, h.ap, h.lt, Nat.le_trans hK h.ks⟩

/-- What the reference keeps: the images, and which are known. -/
structure Kn (K g G cap : Nat) (w : World) (M : Im) : Prop where
  len : M.length = 6
  row : w.ownsRow K 4 1 (.slice (some ⟨g, 0, none⟩) 6 6) 6 (M.map fun o => .bool o.isSome)
  im : ∃ ss : List Sl, ss.length = 6 ∧ OwnFs K w (.slice (some ⟨G, 0, none⟩) 6 cap) ss ∧ ss.map (·.2) = finM M ∧ ∀ s ∈ ss, (slV s).ownBlock ≠ some g
  ne : g ≠ G

theorem kn_start1 {w w1 w3 : World} {v : Value} {ss : List Sl} {i0 : TypeInfo} (_h1 : Try.prog.info? 4 = some i0) (_h2 : i0.zero = some (.bool false)) (_h3 : i0.size = 1) (hK : w.heap.size ≤ w1.heap.size) (hw : Below w.heap.size w w1) (ho : OwnFs w1.heap.size w3 v ss) (hss : ss.map (·.2) = selfL 6) (hb : Below w1.heap.size w1 w3) :
    ∃ G cap, v = .slice (some ⟨G, 0, none⟩) 6 cap ∧ Hid (Kn w.heap.size w3.heap.size G cap (w3.alloc (.cells #[.bool false, .bool false, .bool false, .bool false, .bool false, .bool false] 4)) noIm) ∧ Below w.heap.size w (w3.alloc (.cells #[.bool false, .bool false, .bool false, .bool false, .bool false, .bool false] 4)) := by
  have hl : ss.length = 6 := by have := congrArg List.length hss; simpa [selfL] using this
  obtain ⟨G, cap, rfl, hG1, hG2⟩ := ho.open (by omega)
  have hb1 := hw.trans (hb.mono hK)
  have hb2 := (Below.refl w3.heap.size w3).alloc (Nat.le_refl _) (.cells #[.bool false, .bool false, .bool false, .bool false, .bool false, .bool false] 4)
  rw [hl] at ho ⊢
  refine ⟨G, cap, rfl, ⟨rfl, ?_, ⟨ss, hl, (ho.below hb2).mono hK, by rw [hss, finM_none], fun s hs e => ?_⟩, by omega⟩, hb1.trans (hb2.mono hb1.size)⟩
  · exact World.ownsRow_lit w3 #[.bool false, .bool false, .bool false, .bool false, .bool false, .bool false] 6 hb1.size (by simp [maxLen]) rfl
  · have := ho.lt s hs _ e
    omega
theorem kn_start2 {w w3 : World} {v : Value} {ss : List Sl} {i0 : TypeInfo} {n : Nat} (_h1 : Try.prog.info? 4 = some i0) (_h2 : i0.zero = some (.bool false)) (_h3 : i0.size = 1) (ho : OwnFs ((w.alloc (.cells #[.bool false, .bool false, .bool false, .bool false, .bool false, .bool false] 4)).drewN n).heap.size w3 v ss) (hss : ss.map (·.2) = selfL 6)
    (hb : Below ((w.alloc (.cells #[.bool false, .bool false, .bool false, .bool false, .bool false, .bool false] 4)).drewN n).heap.size ((w.alloc (.cells #[.bool false, .bool false, .bool false, .bool false, .bool false, .bool false] 4)).drewN n) w3) :
    ∃ G cap, v = .slice (some ⟨G, 0, none⟩) 6 cap ∧ Hid (Kn w.heap.size w.heap.size G cap w3 noIm) ∧ Below w.heap.size w w3 := by
  have hl : ss.length = 6 := by have := congrArg List.length hss; simpa [selfL] using this
  obtain ⟨G, cap, rfl, hG1, hG2⟩ := ho.open (by omega)
  have r0 : (w.alloc (.cells #[.bool false, .bool false, .bool false, .bool false, .bool false, .bool false] 4)).ownsRow w.heap.size 4 1 (.slice (some ⟨w.heap.size, 0, none⟩) 6 6) 6 _ := World.ownsRow_lit w #[.bool false, .bool false, .bool false, .bool false, .bool false, .bool false] 6 (Nat.le_refl _) (by simp [maxLen]) rfl
  have hW := ((Below.refl w.heap.size w).alloc (Nat.le_refl _) (.cells #[.bool false, .bool false, .bool false, .bool false, .bool false, .bool false] 4)).trans (below_drewN' (w := w.alloc (.cells #[.bool false, .bool false, .bool false, .bool false, .bool false, .bool false] 4)) n _)
  have r1 := own_below r0 (below_drewN' (w := w.alloc (.cells #[.bool false, .bool false, .bool false, .bool false, .bool false, .bool false] 4)) n _) (Nat.le_refl _)
  have hg : ((w.alloc (.cells #[.bool false, .bool false, .bool false, .bool false, .bool false, .bool false] 4)).drewN n).heap[w.heap.size]? = some (.cells #[.bool false, .bool false, .bool false, .bool false, .bool false, .bool false] 4) := by
    show (w.heap.push _)[w.heap.size]? = _
    exact Array.getElem?_push_size
  have hz : ((w.alloc (.cells #[.bool false, .bool false, .bool false, .bool false, .bool false, .bool false] 4)).drewN n).heap.size = w.heap.size + 1 := by
    show (w.alloc _).heap.size = _
    simp
  generalize (w.alloc (.cells #[.bool false, .bool false, .bool false, .bool false, .bool false, .bool false] 4)).drewN n = W at *
  rw [hl] at ho ⊢
  have hg3 := (hb.block w.heap.size (by omega)).trans hg
  refine ⟨G, cap, rfl, ⟨rfl, own_below r1 hb (Nat.le_refl _), ⟨ss, hl, ho.mono (by omega), by rw [hss, finM_none], fun s hs => ?_⟩, by omega⟩, hW.trans (hb.mono hW.size)⟩
  refine not_bools (ho.el s hs) ?_ hg3
  have hm : s.2 ∈ selfL 6 := by rw [← hss]; exact List.mem_map_of_mem hs
  have : ∀ I ∈ selfL 6, 0 < I.length := by decide
  exact this _ hm
theorem Kn.fs {K g G cap : Nat} {w : World} {M : Im} (h : Kn K g G cap w M) : Fs w (.slice (some ⟨G, 0, none⟩) 6 cap) (finM M) := by
  obtain ⟨ss, h1, h2, h3, h4⟩ := h.im
  exact ⟨ss, h2.slices, h2.el, h3⟩
theorem Kn.below {K g G cap : Nat} {w w' : World} {M : Im} (h : Kn K g G cap w M) (hb : Below w.heap.size w w') : Kn K g G cap w' M := by
  obtain ⟨ss, h1, h2, h3, h4⟩ := h.im
  exact ⟨h.len, own_below h.row hb (Nat.le_refl _), ⟨ss, h1, h2.below hb, h3, h4⟩, h.ne⟩
theorem Kn.ks {K g G cap : Nat} {w : World} {M : Im} (h : Kn K g G cap w M) : K ≤ w.heap.size := by
  obtain ⟨ss, h1, h2, h3, h4⟩ := h.im
  exact h2.ks
theorem Kn.gl {K g G cap : Nat} {w : World} {M : Im} (h : Kn K g G cap w M) : K ≤ g ∧ g < w.heap.size ∧ K ≤ G ∧ G < w.heap.size := by
  obtain ⟨ss, h1, h2, h3, h4⟩ := h.im
  exact ⟨(h.row.lt g rfl).1, own_lt h.row g rfl, (h2.own.lt G rfl).1, own_lt h2.own G rfl⟩
theorem Kn.put {K g G cap U m c3 : Nat} {a3 : Option Addr} {w w3 : World} {M : Im} {Pt : List Nd} (h : Kn K g G cap w M) (hU : U < 6) (hb : Below w.heap.size (w.setCell ⟨g, U, none⟩ (.bool true)) w3) (hm : Pt.length = m)
    (ho : w3.ownsRow w.heap.size 41 2 (.slice a3 m c3) m (cellsN Pt)) : Kn K g G cap (w3.setCell ⟨G, U, none⟩ (.slice a3 m c3)) (M.set U (some Pt)) := by
  obtain ⟨ss, h1, h2, h3, h4⟩ := h.im
  obtain ⟨k1, k2, k3, k4⟩ := h.gl
  have hg1 := grown_set w g U (.bool true)
  have hg2 := grown_set w3 G U (.slice a3 m c3)
  have hsz : (w.setCell ⟨g, U, none⟩ (.bool true)).heap.size = w.heap.size := by simp [World.setCell]
  have hb' : Below (w.setCell ⟨g, U, none⟩ (.bool true)).heap.size (w.setCell ⟨g, U, none⟩ (.bool true)) w3 := by rw [hsz]; exact hb
  refine ⟨by rw [List.length_set]; exact h.len, ?_, ⟨ss.set U ((a3, m, c3), Pt), by rw [List.length_set]; exact h1, ⟨?_, ?_, ?_, ?_, ?_⟩, ?_, ?_⟩, h.ne⟩
  · have r1 := (h.row.stored U (.bool true)).1
    have r2 := own_below r1 hb' (Nat.le_refl _)
    have r3 : (w3.setCell ⟨G, U, none⟩ (.slice a3 m c3)).ownsRow K 4 1 (.slice (some ⟨g, 0, none⟩) 6 6) 6 _ := row_same r2 fun k hk _ hl => hg2.block k hl fun e => by
      obtain rfl : g = k := by simpa [Value.ownBlock] using hk
      exact h.ne (by simpa using e)
    rw [List.map_set]
    exact r3
  · have r0 := h2.own
    have r1 : (w.setCell ⟨g, U, none⟩ (.bool true)).ownsRow K 27 1 (.slice (some ⟨G, 0, none⟩) 6 cap) ss.length (ss.map slV) := row_same r0 fun k hk _ hl => hg1.block k hl fun e => by
      obtain rfl : G = k := by simpa [Value.ownBlock] using hk
      exact h.ne (by simpa using e.symm)
    have r2 := own_below r1 hb' (Nat.le_refl _)
    rw [h1] at r2
    have r3 := (r2.stored U (.slice a3 m c3)).1
    rw [List.length_set, h1, List.map_set]
    exact r3
  · intro t ht
    rcases List.mem_or_eq_of_mem_set ht with ht | rfl
    · have n1 := nodes_grown (h2.el t ht) hg1 fun k hk => by
        obtain rfl : g = k := by simpa using hk
        exact h4 t ht
      exact nodes_grown (n1.below hb' (Nat.le_refl _)) hg2 fun k hk => by
        obtain rfl : G = k := by simpa using hk
        exact h2.ap t ht G rfl
    · have n1 : Nodes w3 (slV ((a3, m, c3), Pt)) Pt := nodes_of_own (show w3.ownsRow w.heap.size 41 2 (slV ((a3, m, c3), Pt)) Pt.length (cellsN Pt) by rw [hm]; exact ho)
      exact nodes_grown n1 hg2 fun k hk => by
        obtain rfl : G = k := by simpa using hk
        intro e
        have := (ho.lt G e).1
        omega
  · intro t ht k hk
    obtain rfl : G = k := by simpa [Value.ownBlock] using hk
    rcases List.mem_or_eq_of_mem_set ht with ht | rfl
    · exact h2.ap t ht G rfl
    · intro e
      have := (ho.lt G e).1
      omega
  · intro t ht k hk
    have hs2 : w3.heap.size ≤ (w3.setCell ⟨G, U, none⟩ (.slice a3 m c3)).heap.size := hg2.size
    have hs1 := hb'.size
    rcases List.mem_or_eq_of_mem_set ht with ht | rfl
    · have := h2.lt t ht k hk
      omega
    · have := (ho.lt k hk).2
      omega
  · have hs2 : w3.heap.size ≤ (w3.setCell ⟨G, U, none⟩ (.slice a3 m c3)).heap.size := hg2.size
    have hs1 := hb'.size
    have := h2.ks
    omega
  · rw [List.map_set, h3, finM_set h.len hU]
  · intro t ht
    rcases List.mem_or_eq_of_mem_set ht with ht | rfl
    · exact h4 t ht
    · intro e
      have := (ho.lt g e).1
      omega
theorem nodes_slice {w : World} {bb ob cb T m c : Nat} {b : List Nd} (h : Nodes w (.slice (some ⟨bb, ob, none⟩) b.length cb) b) (hp : 0 < b.length) (hme : partEndL b T = ((T + m : Nat) : Int)) (hm1 : T + m ≤ b.length) (hc : m ≤ c) (hx : b.length ≤ 40) : Nodes w (.slice (some ⟨bb, ob + T * 2, none⟩) m c) (partL b T) := by
  obtain ⟨c', b', o', he, _, hcm, hcell⟩ := h.raw hp
  injection he with h1 h2 h3
  obtain ⟨rfl, rfl⟩ : bb = b' ∧ ob = o' := by simpa using h1
  rw [← partL_eq hme]
  exact nodes_piece hcell.out hc (by unfold maxLen; omega) hm1 fun _ => rfl

end Go.Proofs.Ytdpnkojchimmfaa
