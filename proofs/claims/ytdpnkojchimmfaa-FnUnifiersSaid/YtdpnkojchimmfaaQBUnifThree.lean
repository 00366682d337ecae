/- UnifyFormulas: the program's walk. -/
import Derived.Test.YtdpnkojchimmfaaQBUnifTwo

namespace Go.Proofs.Ytdpnkojchimmfaa
open Go.RowKit Go.Deep

theorem toBind_none (v u : Value) (x y : List Nd) (w : World) (h : Nodes w v x) (hu : Nodes w u y) (hx : formB x = true) (hy : formB y = true) (hb : bindOf x y = none) :
    Calls Try.prog 31 #[v, u] w fun e w' => e = .returned (.tuple #[.int .i64 0, .slice none 0 0, .bool false]) ∧ Below w.heap.size w w' := by
  have hgx := form_all hx
  have hgy := form_all hy
  have hlx := form_len3 hx
  have hly := form_len3 hy
  have hvh := h
  have huh := hu
  obtain ⟨c, bb, o, rfl, hc, _, hc0, hc1⟩ := head_cell h hlx.1
  obtain ⟨c', bb', o', rfl, hc', _, hd0, hd1⟩ := head_cell hu hly.1
  have hmx := Lib.hid (fun W (hW : Below w.heap.size w W) => variableMask_any _ x W (hvh.below hW (Nat.le_refl _)) hgx)
  have hmy := Lib.hid (fun W (hW : Below w.heap.size w W) => variableMask_any _ y W (huh.below hW (Nat.le_refl _)) hgy)
  have hbx := varMask_bound hgx
  have hby := varMask_bound hgy
  unfold bindOf at hb
  by_cases h1 : (headN x).1 = 0
  · have nx := head_var hgx hlx.1 h1
    rw [if_pos h1] at hb
    by_cases h2 : (headN y).1 = 0
    · have ny := head_var hgy hly.1 h2
      by_cases h3 : (headN x).2 < (headN y).2
      · rw [if_pos ⟨h2, h3⟩] at hb
        have hin : (headN y).2 ∈ varL x := by
          by_cases hin : (headN y).2 ∈ varL x
          · exact hin
          · rw [if_neg hin] at hb; cases hb
        exact toBind_a1 bb o bb' o' x.length y.length c c' _ _ _ _ (varMask x) w hlx.1 hc hly.1 hc' hc0 hc1 hd0 hd1 h1 h2 h3 hbx ny (bind_yes hgx ny.1 hin) hmx
      · rw [if_neg (fun e => h3 e.2)] at hb
        have hin : (headN x).2 ∈ varL y := by
          by_cases hin : (headN x).2 ∈ varL y
          · exact hin
          · rw [if_neg hin] at hb; cases hb
        exact toBind_b1 bb o bb' o' x.length y.length c c' _ _ _ _ (varMask y) w hlx.1 hc hly.1 hc' hc0 hc1 hd0 hd1 h1 h2 h3 hby nx (bind_yes hgy nx.1 hin) hmy
    · rw [if_neg (fun e => h2 e.1)] at hb
      have hin : (headN x).2 ∈ varL y := by
        by_cases hin : (headN x).2 ∈ varL y
        · exact hin
        · rw [if_neg hin] at hb; cases hb
      exact toBind_c1 bb o bb' o' x.length y.length c c' _ _ _ _ (varMask y) w hlx.1 hc hly.1 hc' hc0 hc1 hd0 hd1 h1 h2 hby nx (bind_yes hgy nx.1 hin) hmy
  · rw [if_neg h1] at hb
    by_cases h2 : (headN y).1 = 0
    · have ny := head_var hgy hly.1 h2
      rw [if_pos h2] at hb
      have hin : (headN y).2 ∈ varL x := by
        by_cases hin : (headN y).2 ∈ varL x
        · exact hin
        · rw [if_neg hin] at hb; cases hb
      exact toBind_d1 bb o bb' o' x.length y.length c c' _ _ _ _ (varMask x) w hlx.1 hc hly.1 hc' hc0 hc1 hd0 hd1 h1 h2 hbx ny (bind_yes hgx ny.1 hin) hmx
    · exact toBind_e bb o bb' o' x.length y.length c c' _ _ _ _ 0 w hlx.1 hc hly.1 hc' hc0 hc1 hd0 hd1 h1 h2

theorem toBind_some (v u : Value) (x y : List Nd) (w : World) (h : Nodes w v x) (hu : Nodes w u y) (hx : formB x = true) (hy : formB y = true) (s : Int) (d : List Nd) (hb : bindOf x y = some (s, d)) :
    Calls Try.prog 31 #[v, u] w fun e w' => (∃ vd, e = .returned (.tuple #[.int .i64 s, vd, .bool true]) ∧ Hid (Nodes w' vd d)) ∧ Below w.heap.size w w' := by
  have hgx := form_all hx
  have hgy := form_all hy
  have hlx := form_len3 hx
  have hly := form_len3 hy
  have hvh := h
  have huh := hu
  obtain ⟨c, bb, o, rfl, hc, _, hc0, hc1⟩ := head_cell h hlx.1
  obtain ⟨c', bb', o', rfl, hc', _, hd0, hd1⟩ := head_cell hu hly.1
  have hmx := Lib.hid (fun W (hW : Below w.heap.size w W) => variableMask_any _ x W (hvh.below hW (Nat.le_refl _)) hgx)
  have hmy := Lib.hid (fun W (hW : Below w.heap.size w W) => variableMask_any _ y W (huh.below hW (Nat.le_refl _)) hgy)
  have hbx := varMask_bound hgx
  have hby := varMask_bound hgy
  unfold bindOf at hb
  by_cases h1 : (headN x).1 = 0
  · have nx := head_var hgx hlx.1 h1
    rw [if_pos h1] at hb
    by_cases h2 : (headN y).1 = 0
    · have ny := head_var hgy hly.1 h2
      by_cases h3 : (headN x).2 < (headN y).2
      · rw [if_pos ⟨h2, h3⟩] at hb
        by_cases hin : (headN y).2 ∈ varL x
        · rw [if_pos hin] at hb; cases hb
        · rw [if_neg hin] at hb
          obtain ⟨rfl, rfl⟩ : (headN y).2 = s ∧ x = d := by simpa using hb
          exact (toBind_a2 bb o bb' o' x.length y.length c c' _ _ _ _ (varMask x) w hlx.1 hc hly.1 hc' hc0 hc1 hd0 hd1 h1 h2 h3 hbx ny (bind_no hgx ny.1 hin) hmx).mono fun e w' ⟨he, hbw⟩ => ⟨⟨_, he, hvh.below hbw (Nat.le_refl _)⟩, hbw⟩
      · rw [if_neg (fun e => h3 e.2)] at hb
        by_cases hin : (headN x).2 ∈ varL y
        · rw [if_pos hin] at hb; cases hb
        · rw [if_neg hin] at hb
          obtain ⟨rfl, rfl⟩ : (headN x).2 = s ∧ y = d := by simpa using hb
          exact (toBind_b2 bb o bb' o' x.length y.length c c' _ _ _ _ (varMask y) w hlx.1 hc hly.1 hc' hc0 hc1 hd0 hd1 h1 h2 h3 hby nx (bind_no hgy nx.1 hin) hmy).mono fun e w' ⟨he, hbw⟩ => ⟨⟨_, he, huh.below hbw (Nat.le_refl _)⟩, hbw⟩
    · rw [if_neg (fun e => h2 e.1)] at hb
      by_cases hin : (headN x).2 ∈ varL y
      · rw [if_pos hin] at hb; cases hb
      · rw [if_neg hin] at hb
        obtain ⟨rfl, rfl⟩ : (headN x).2 = s ∧ y = d := by simpa using hb
        exact (toBind_c2 bb o bb' o' x.length y.length c c' _ _ _ _ (varMask y) w hlx.1 hc hly.1 hc' hc0 hc1 hd0 hd1 h1 h2 hby nx (bind_no hgy nx.1 hin) hmy).mono fun e w' ⟨he, hbw⟩ => ⟨⟨_, he, huh.below hbw (Nat.le_refl _)⟩, hbw⟩
  · rw [if_neg h1] at hb
    by_cases h2 : (headN y).1 = 0
    · have ny := head_var hgy hly.1 h2
      rw [if_pos h2] at hb
      by_cases hin : (headN y).2 ∈ varL x
      · rw [if_pos hin] at hb; cases hb
      · rw [if_neg hin] at hb
        obtain ⟨rfl, rfl⟩ : (headN y).2 = s ∧ x = d := by simpa using hb
        exact (toBind_d2 bb o bb' o' x.length y.length c c' _ _ _ _ (varMask x) w hlx.1 hc hly.1 hc' hc0 hc1 hd0 hd1 h1 h2 hbx ny (bind_no hgx ny.1 hin) hmx).mono fun e w' ⟨he, hbw⟩ => ⟨⟨_, he, hvh.below hbw (Nat.le_refl _)⟩, hbw⟩
    · rw [if_neg h2] at hb; cases hb

set_option maxHeartbeats 1000000 in
theorem identityG_any (w : World) :
    Calls Try.prog 29 #[] w fun e w' => ∃ v ss, e = .returned v ∧ Grow w.heap.size w' v ss ∧ ss.map Prod.snd = selfL 6 ∧ Below w.heap.size w w' := by
  obtain ⟨i0, hi, hz0, hz1, hz2⟩ := info_parts info_nodes
  go_enter Try.func29, Try.ntmps29
  go_wp2_with fail
  go_loopw [1, 3] (fun v i wr => ∃ (k : Nat) (ss : List Sl), k ≤ 6 ∧ i = .int .i64 k ∧ Grow w.heap.size wr v ss ∧ Hid (ss.map Prod.snd = selfL k) ∧ Below w.heap.size w wr) (fun _ i _ => 6 - (intOf i).toNat)
  case atStart => exact ⟨0, [], by omega, rfl, Grow.nil (Nat.le_refl _), rfl, Below.refl _ _⟩
  case round =>
    obtain ⟨k, ss, hk, rfl, ho, hss, hb⟩ := hrel
    have hsl : ss.length ≤ 6 := by have := congrArg List.length hss.out; simp [selfL] at this; omega
    by_cases hlt : k < 6
    · have hki : (k : Int) < 6 := by omega
      go_wp2_with fail
      refine (variableG_any _ _).mono ?_
      rintro e w2 ⟨rfl, ho2, b2⟩
      have b3 := Lib.hid (b2.alloc b2.size (.cells #[.slice (some ⟨wr.heap.size, 0, none⟩) 1 1] 27))
      have ho3 := Lib.hid (own_below ho2 ((Below.refl w2.heap.size w2).alloc (Nat.le_refl _) (.cells #[.slice (some ⟨wr.heap.size, 0, none⟩) 1 1] 27)) (Nat.le_refl _))
      have hg3 := Lib.hid (ho.below b3.out)
      have hnew := Lib.hid (cell_one_new w2 (.slice (some ⟨wr.heap.size, 0, none⟩) 1 1) 27)
      have hks := hg3.out.ks
      have hoh := Lib.hid ho
      clear ho ho2 b2
      go_wp2_with (at_builtin; refine wpList_append_own_at _ rfl _ _ 24 rfl w.heap.size 27 i0 (.slice none 0 0) 1 24 Try.underlying24 hi hz0 hz1 hz2 rfl (by decide) _ ss.length (ss.map slV) rfl hg3.out.own ⟨w2.heap.size, 0, none⟩ 1 1 [.slice (some ⟨wr.heap.size, 0, none⟩) 1 1] rfl rfl hnew.out (by simp [Value.oneCell']) (by unfold maxLen; omega) (by omega) hks ?_; intro v2 w4 hown2 hgrow2 _ hblk2)
      go_roundw
      case rel =>
        refine ⟨k + 1, ss ++ [((some ⟨wr.heap.size, 0, none⟩, 1, 1), [(0, (k : Int))])], by omega, by go_num, ?_, ?_, ?_⟩
        · exact hoh.out.add (s := ((some ⟨wr.heap.size, 0, none⟩, 1, 1), [(0, (k : Int))])) b3.out ho3.out hown2 hgrow2 hblk2
        · show List.map _ _ = _
          rw [List.map_append, hss.out, selfL_succ]; rfl
        · exact (hb.trans (b3.out.mono hoh.out.ks)).grown hgrow2 hks (fun j hj => (hg3.out.own.lt j hj).1)
      case measure => simp [intOf]; omega
    · obtain rfl : k = 6 := by omega
      have ho := Lib.hid ho
      go_wp2_with fail
      go_ret
      exact ⟨_, ss, rfl, ho.out, hss.out, hb⟩

-- the substitution behind the two formulas
theorem slices_tail {w : World} {G o n cap : Nat} {s1 s2 : Sl} {ss : List Sl} (h : Slices w (.slice (some ⟨G, o, none⟩) n cap) (s1 :: s2 :: ss)) : Slices w (.slice (some ⟨G, o + 2, none⟩) (n - 2) (cap - 2)) ss := by
  obtain ⟨h1, h2, a, c, b, o', hv, hc, ha, hcell⟩ := h
  have hp : 0 < (s1 :: s2 :: ss).length := by simp
  obtain rfl := ha hp
  obtain ⟨⟨rfl, rfl⟩, rfl, rfl⟩ : (G = b ∧ o = o') ∧ n = (s1 :: s2 :: ss).length ∧ cap = c := by simpa using hv
  simp only [List.length_cons] at hc h2
  refine ⟨by simp, by omega, some ⟨G, o + 2, none⟩, cap - 2, G, o + 2, by simp, by omega, fun _ => rfl, fun i u hu => ?_⟩
  have := hcell (i + 2) u (by simpa using hu)
  rw [show o + 2 + i = o + (i + 2) by omega]
  exact this
theorem OwnSS.tail {lo hi : Nat} {w : World} {G o n cap : Nat} {a b : List Nd} {Is : List (List Nd)} (h : OwnSS lo hi w (.slice (some ⟨G, o, none⟩) n cap) (a :: b :: Is)) : OwnSS lo hi w (.slice (some ⟨G, o + 2, none⟩) (n - 2) (cap - 2)) Is := by
  obtain ⟨hs, h⟩ := h
  obtain ⟨h1, h2, hs, rfl⟩ : ∃ h1 h2 hs', hs = h1 :: h2 :: hs' := by
    have := h.len
    match hs, this with
    | h1 :: h2 :: hs', _ => exact ⟨h1, h2, hs', rfl⟩
  have hl := h.len
  simp only [List.length_cons] at hl
  have hsl : Slices w (.slice (some ⟨G, o, none⟩) n cap) ((h1, []) :: (h2, []) :: hs.map fun x => (x, [])) := by
    have := h.out
    have e : (((h1, []) :: (h2, []) :: hs.map fun x => (x, [])) : List Sl).map slV = (h1 :: h2 :: hs).map hdV := by
      simp only [List.map_cons, List.map_map]; rfl
    unfold Slices
    rw [e]
    simpa using this
  have ht := slices_tail hsl
  unfold Slices at ht
  have e2 : (hs.map fun x => ((x, []) : Sl)).map slV = hs.map hdV := by rw [List.map_map]; rfl
  rw [e2, List.length_map] at ht
  refine ⟨hs, ht, by omega, fun j x I hj hI => h.row (j + 2) x I (by simpa using hj) (by simpa using hI), fun x hx k hk => ?_, fun i j x x' k hne hi' hj' hk => h.ap (i + 2) (j + 2) x x' k (by omega) (by simpa using hi') (by simpa using hj') hk, fun k hk => h.vlt k hk, h.top⟩
  exact h.lt x (List.mem_cons_of_mem _ (List.mem_cons_of_mem _ hx)) k hk
theorem OwnSS.shape {lo hi : Nat} {w : World} {v : Value} {Is : List (List Nd)} (h : OwnSS lo hi w v Is) (hp : 0 < Is.length) : ∃ G o cap, v = .slice (some ⟨G, o, none⟩) Is.length cap ∧ Is.length ≤ cap := by
  obtain ⟨hs, h⟩ := h
  have hl := h.len
  obtain ⟨_, _, a, c, b, o, hv, hc, ha, _⟩ := h.out
  obtain rfl := ha (by omega)
  exact ⟨b, o, c, by rw [hv, hl], by omega⟩
end Go.Proofs.Ytdpnkojchimmfaa
