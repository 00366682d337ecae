/- UnifyFormulas: the program's walk, whole. -/
import Derived.Test.YtdpnkojchimmfaaQBUnifInv
import Derived.Test.YtdpnkojchimmfaaQBMatchFormM

namespace Go.Proofs.Ytdpnkojchimmfaa
open Go.RowKit Go.Deep

theorem unif_start {w w1 w2 w4 : World} {aa ab : Option Addr} {ca cb : Nat} {a b : List Nd} {ss : List Sl} {v v2 : Value} (h : Nodes w (.slice aa a.length ca) a) (hu : Nodes w (.slice ab b.length cb) b) (b1 : Below w.heap.size w w1)
    (b2 : Below (w1.alloc (.cells #[.slice aa a.length ca, .slice ab b.length cb] 27)).heap.size (w1.alloc (.cells #[.slice aa a.length ca, .slice ab b.length cb] 27)) w2)
    (hG : Grow (w1.alloc (.cells #[.slice aa a.length ca, .slice ab b.length cb] 27)).heap.size w2 v ss) (hss : ss.map Prod.snd = selfL 6)
    (ho : w4.ownsRow w.heap.size 27 1 v2 (2 + 6) ([.slice aa a.length ca, .slice ab b.length cb] ++ ss.map slV)) (hg : w2.grownBy w4 (some w1.heap.size)) (hk : v2.ownBlock = some w1.heap.size ∨ v2.ownBlock = some w2.heap.size) :
    ∃ G cap, v2 = .slice (some ⟨G, 0, none⟩) 8 cap ∧ 8 ≤ cap ∧ Fs w4 v2 (a :: b :: selfL 6) ∧ OwnSS w.heap.size w4.heap.size w4 (.slice (some ⟨G, 0 + 2, none⟩) 6 (cap - 2)) (selfL 6) ∧ Below w.heap.size w w4 := by
  have hsl : ss.length = 6 := by have := congrArg List.length hss; simpa [selfL] using this
  have hA : Below w.heap.size w (w1.alloc (.cells #[.slice aa a.length ca, .slice ab b.length cb] 27)) := b1.alloc b1.size _
  have hsz : (w1.alloc (.cells #[.slice aa a.length ca, .slice ab b.length cb] 27)).heap.size = w1.heap.size + 1 := by simp
  have B2 : Below w.heap.size w w2 := hA.trans (b2.mono hA.size)
  have s1 := b1.size
  have s2 := b2.size
  have B4 : Below w.heap.size w w4 := B2.grown hg B2.size (fun j hj => by
    obtain rfl : w1.heap.size = j := by simpa using hj
    exact s1)
  have hS : Slices w4 v2 (((aa, a.length, ca), a) :: ((ab, b.length, cb), b) :: ss) := by
    have h9 := reads_of_own ho
    unfold Slices
    have e : (((aa, a.length, ca), a) :: ((ab, b.length, cb), b) :: ss : List Sl).length = 2 + 6 := by simp [hsl]
    rw [e]
    exact h9
  have hrow : ∀ s ∈ ss, w4.ownsRow w.heap.size 41 2 (slV s) s.2.length (cellsN s.2) ∧ ∀ k, (slV s).ownBlock = some k → w1.heap.size < k ∧ k < w2.heap.size := fun s hs => by
    have hl : ∀ k, (slV s).ownBlock = some k → w1.heap.size < k ∧ k < w2.heap.size := fun k hk => by have := (hG.row s hs).lt k hk; omega
    refine ⟨row_same (own_mono (hG.row s hs) (by omega)) fun k hk1 _ hlt => hg.block k hlt fun e => ?_, hl⟩
    have h8 := (hl k hk1).1
    obtain rfl : k = w1.heap.size := by simpa using e
    exact Nat.lt_irrefl _ h8
  have hS0 := hS
  obtain ⟨_, _, a9, c9, b9, o9, hv9, hc9, ha9, _⟩ := hS0
  have hl9 : (((aa, a.length, ca), a) :: ((ab, b.length, cb), b) :: ss : List Sl).length = 8 := by simp [hsl]
  rw [hl9] at hv9 hc9 ha9
  obtain rfl := ha9 (by omega)
  subst hv9
  obtain rfl : o9 = 0 := by
    rcases ho.2 with ⟨e, _⟩ | ⟨g, cap, cur, e, _⟩
    · cases e
    · have := e; simp at this; omega
  have hlt := ho.lt b9 rfl
  refine ⟨b9, c9, rfl, hc9, ⟨_, hS, fun s hs => ?_, by simp [hss]⟩, ?_, B4⟩
  · rcases List.mem_cons.1 hs with rfl | hs
    · exact h.below B4 (Nat.le_refl _)
    rcases List.mem_cons.1 hs with rfl | hs
    · exact hu.below B4 (Nat.le_refl _)
    · exact nodes_of_own (hrow s hs).1
  · rw [← hss]
    refine ownSS_of_sl (slices_tail hS) (fun s hs => (hrow s hs).1) (fun s hs k hk9 => ⟨Nat.lt_of_lt_of_le ((hrow s hs).2 k hk9).2 hg.size, fun e => ?_⟩) hG.pw (fun k hk9 => ?_) (Nat.le_refl _)
    · obtain rfl : b9 = k := by simpa [Value.ownBlock] using e
      have := (hrow s hs).2 _ hk9
      simp [Value.ownBlock] at hk
      omega
    · obtain rfl : b9 = k := by simpa [Value.ownBlock] using hk9
      exact hlt

set_option maxHeartbeats 4000000 in
set_option maxRecDepth 100000 in
theorem implUnifyFormulas_any (v : Value) (a : List Nd) (u : Value) (b : List Nd) (w : World) (h : Nodes w v a) (hu : Nodes w u b) :
    Calls Try.prog 9 #[v, u] w fun e w' => ∃ v', e = .returned (.tuple #[v', .int .i64 (uniCode a b)]) ∧ OwnSS w.heap.size w'.heap.size w' v' (uniR a b) ∧ Below w.heap.size w w' := by
  obtain ⟨i0, hi, hz0, hz1, hz2⟩ := info_parts info_nodes
  obtain ⟨aa, ca, rfl⟩ := h.shape
  obtain ⟨ab, cb, rfl⟩ := hu.shape
  have hA := Lib.hid (areFormulas_two w aa ab _ _ ca cb a b 27 h hu)
  have hh := Lib.hid h
  have huh := Lib.hid hu
  clear h hu
  cases hf : form2 a b
  · obtain ⟨h2, h3⟩ := uni_no hf
    have h1 := Lib.hid (show (formB a && formB b) = false from hf)
    have h2 := Lib.hid h2
    have h3 := Lib.hid h3
    clear hf
    generalize a.length = la at *
    generalize b.length = lb at *
    go_enter Try.func9, Try.ntmps9
    go_wp2_with fail
    refine hA.out.mono ?_
    rintro e w1 ⟨rfl, b1⟩
    rw [h1.out]
    go_wp2_with fail
    go_ret2
    exact ⟨_, by rw [h3.out]; rfl, by rw [h2.out]; exact OwnSS.nil _ _, b1⟩
  · obtain ⟨h2, h3⟩ := uni_yes hf
    have h1 := Lib.hid (show (formB a && formB b) = true from hf)
    have hfab : formB a = true ∧ formB b = true := by have := h1.out; rwa [Bool.and_eq_true] at this
    have hst := Lib.hid (UnInv.start hfab.1 hfab.2)
    have h2 := Lib.hid h2
    have h3 := Lib.hid h3
    generalize unifGo 7 a b (selfL 6) = R0 at *
    clear hf hfab
    have hstart := Lib.hid (fun w1 w2 w4 ss v v2 b1 b2 hG hss ho hg hk => unif_start (w := w) (w1 := w1) (w2 := w2) (w4 := w4) (ss := ss) (v := v) (v2 := v2) hh.out huh.out b1 b2 hG hss ho hg hk)
    generalize a.length = la at *
    generalize b.length = lb at *
    go_enter Try.func9, Try.ntmps9
    go_wp2_with fail
    refine hA.out.mono ?_
    rintro e w1 ⟨rfl, b1⟩
    rw [h1.out]
    have hl0 := Lib.hid (World.ownsRow_lit (e := 27) (base := w.heap.size) (size := 1) w1 #[.slice aa la ca, .slice ab lb cb] 2 b1.size (by simp [maxLen]) rfl)
    have b1 := Lib.hid b1
    go_wp2_with fail
    refine (identityG_any _).mono ?_
    rintro e w2 ⟨vi, ss, rfl, hG, hss, b2⟩
    have hsl : ss.length = 6 := by have := congrArg List.length hss; simpa [selfL] using this
    have hlit := Lib.hid (own_below hl0.out b2 (Nat.le_refl _))
    have hGr := reads_of_own hG.own
    obtain ⟨_, _, a9, c9, b9, o9, rfl, hc9, ha9, hcell9⟩ := hGr
    rw [hsl] at hc9 ha9
    obtain rfl := ha9 (by omega)
    have hsrc := Lib.hid (show ∀ j q, (ss.map slV)[j]? = some q → w2.cell? ((⟨b9, o9, none⟩ : Addr).add j) = some q from fun j q hq => by rw [Addr.add_lit]; exact hcell9 j q hq)
    have hslh := Lib.hid hsl
    rw [hsl]
    have hks : w.heap.size ≤ w2.heap.size := by have := b1.out.size; have := b2.size; simp at this; omega
    have hGh := Lib.hid hG
    have hss := Lib.hid hss
    have b2 := Lib.hid b2
    have hone := Lib.hid (show ∀ q ∈ ss.map slV, q.oneCell' = true from fun q hq => by obtain ⟨s, _, rfl⟩ := List.mem_map.1 hq; rfl)
    clear hG ha9 hcell9 hsl
    go_wp2_with (at_builtin; refine wpList_append_own_at _ rfl _ _ 24 rfl w.heap.size 27 i0 (.slice none 0 0) 1 24 Try.underlying24 hi hz0 hz1 hz2 rfl (by decide) _ 2 [.slice aa la ca, .slice ab lb cb] rfl hlit.out ⟨b9, o9, none⟩ 6 c9 (ss.map slV) rfl (by rw [List.length_map, hslh.out]) hsrc.out hone.out (by unfold maxLen; omega) (by omega) hks ?_; intro v2 w4 hown2 hgrow2 _ hblk2)
    obtain ⟨G, cap, rfl, hcap, hF, hO, hB4⟩ := hstart.out w1 w2 w4 ss _ v2 b1.out b2.out hGh.out hss.out hown2 hgrow2 hblk2
    have hF := Lib.hid hF
    have hO := Lib.hid hO
    clear hown2 hgrow2 hblk2 hks
    go_wp2_with fail
    go_loopg [6] 7 (fun n s wr => ∃ (a' b' : List Nd) (Is : List (List Nd)) (G o cap : Nat), s = .slice (some ⟨G, o, none⟩) 8 cap ∧ 8 ≤ cap ∧ Hid (Fs wr s (a' :: b' :: Is)) ∧ Hid (OwnSS w.heap.size wr.heap.size wr (.slice (some ⟨G, o + 2, none⟩) 6 (cap - 2)) Is) ∧ Hid (UnInv n a' b' Is R0) ∧ Below w.heap.size w wr)
    case atStart => exact ⟨a, b, selfL 6, G, 0, cap, rfl, hcap, hF, hO, hst, hB4⟩
    case round =>
      clear hF hO hB4 hcap hst
      obtain ⟨a', b', Is, G, o, cap, rfl, hcap, hF, hO, hI, hB⟩ := hrel
      obtain ⟨va, vb, hca, hcb, hna, hnb⟩ := hF.out.two
      obtain ⟨m, hm, hcs⟩ := hI.out.cases
      have hm := Lib.hid hm
      have hka := form_len3 hI.out.fa
      have hkb := form_len3 hI.out.fb
      have hdf := Lib.hid (fun W (hW : Below wr.heap.size wr W) => difference_any va vb a' b' W (hna.below hW (Nat.le_refl _)) (hnb.below hW (Nat.le_refl _)) hka.1 hkb.1 hka.2 hkb.2)
      rcases hcs with ⟨hd, hR⟩ | ⟨k, hk1, hk2, hd, hcs⟩
      · rw [hd] at hdf
        have hR := Lib.hid hR
        clear hd hka hkb hna hnb
        go_wp2_with fail
        (first | (go_region_with (first | (go_at_call 30; refine (hdf.out _ (by first | exact Below.refl _ _ | exact Below.drew (Below.refl _ _) | exact below_drewN' _ _)).mono ?_; rintro e w5 ⟨rfl, b5⟩))) | fail)
        all_goals
          have B5 : Below wr.heap.size wr w5 := ⟨b5.os, b5.tape, b5.output, b5.size, b5.block⟩
          go_wp2_with fail
          go_ret2
          exact ⟨_, by rw [h3.out, hR.out]; rfl, by rw [h2.out, hR.out]; exact (hO.out.below B5 (Nat.le_refl _)).up B5.size, keep_step B5 hB⟩
      · rw [hd] at hdf
        obtain ⟨ma, ha0, ha1, hae⟩ := part_in hI.out.fa hk1
        obtain ⟨mb, hb0, hb1, hbe⟩ := part_in hI.out.fb hk2
        have hPa := Lib.hid (fun W (hW : Below wr.heap.size wr W) => show Calls Try.prog 32 #[va, .int .i64 (k : Int)] W fun e w' => (∃ v', e = .returned v' ∧ Hid (Nodes W v' (partL a' k))) ∧ W = w' from by
          have h9 := part_any va a' k ma W (hna.below hW (Nat.le_refl _)) hae ha0 ha1 (by omega)
          rw [partL_eq hae] at h9
          exact h9)
        have hPb := Lib.hid (fun W (hW : Below wr.heap.size wr W) => show Calls Try.prog 32 #[vb, .int .i64 (k : Int)] W fun e w' => (∃ v', e = .returned v' ∧ Hid (Nodes W v' (partL b' k))) ∧ W = w' from by
          have h9 := part_any vb b' k mb W (hnb.below hW (Nat.le_refl _)) hbe hb0 hb1 (by omega)
          rw [partL_eq hbe] at h9
          exact h9)
        have fpa := (part_form hI.out.fa hk1).1
        have fpb := (part_form hI.out.fb hk2).1
        have hk0 : ¬ ((k : Int) < 0) := by omega
        clear hd hna hnb ha0 ha1 hae hb0 hb1 hbe
        rcases hcs with ⟨hbn, hR⟩ | ⟨s, d, hbs, hv0, hv5, hfd, hcs⟩
        · have htb := Lib.hid (fun pv pu W (hp : Nodes W pv (partL a' k)) (hq : Nodes W pu (partL b' k)) => toBind_none pv pu _ _ W hp hq fpa fpb hbn)
          have hR := Lib.hid hR
          clear hbn fpa fpb hka hkb
          go_upto_region 4 with fail
          go_cut [7] from 23 to 63 (fun s wx => s = .int .i64 (k : Int) ∧ Below wr.heap.size wr wx)
          case first =>
            (first | (go_region_with (first | (go_at_call 30; refine (hdf.out _ (by first | exact Below.refl _ _ | exact Below.drew (Below.refl _ _) | exact below_drewN' _ _)).mono ?_; rintro e w5 ⟨rfl, b5⟩))) | fail)
            all_goals
              have B5 : Below wr.heap.size wr w5 := ⟨b5.os, b5.tape, b5.output, b5.size, b5.block⟩
              go_wp2_with fail
              go_meet
              exact ⟨rfl, B5⟩
          case rest =>
            obtain ⟨rfl, B5⟩ := hcut
            have hca := keep_cell B5 hca
            have hcb := keep_cell B5 hcb
            have hPa2 := Lib.hid (fun W (hW : Below wc.heap.size wc W) => hPa.out W (B5.trans (hW.mono B5.size)))
            have hPb2 := Lib.hid (fun W (hW : Below wc.heap.size wc W) => hPb.out W (B5.trans (hW.mono B5.size)))
            go_wp2_with fail
            (first | (go_region_with (first
              | (go_at_call_of 32 va; refine (hPa2.out _ (by first | exact Below.refl _ _ | exact Below.drew (Below.refl _ _) | exact below_drewN' _ _)).mono ?_; rintro e w' ⟨⟨pv, rfl, hpv⟩, rfl⟩)
              | (go_at_call_of 32 vb; refine (hPb2.out _ (by first | exact Below.refl _ _ | exact Below.drew (Below.refl _ _) | exact below_drewN' _ _)).mono ?_; rintro e w' ⟨⟨pu, rfl, hpu⟩, rfl⟩)
              | (go_at_call 31; refine (htb.out pv pu _ hpv.out hpu.out).mono ?_; rintro e w6 ⟨rfl, b6⟩))) | fail)
            all_goals
              have B6 : Below wc.heap.size wc w6 := ⟨b6.os, b6.tape, b6.output, b6.size, b6.block⟩
              go_wp2_with fail
              go_ret2
              exact ⟨_, by rw [h3.out, hR.out]; rfl, by rw [h2.out, hR.out]; exact OwnSS.nil _ _, keep_step B6 (keep_step B5 hB)⟩
        · obtain ⟨s, rfl⟩ := Int.eq_ofNat_of_zero_le hv0
          have hs6 : s < 6 := by omega
          have htb := Lib.hid (fun pv pu W (hp : Nodes W pv (partL a' k)) (hq : Nodes W pu (partL b' k)) => toBind_some pv pu _ _ W hp hq fpa fpb (s : Int) d hbs)
          obtain ⟨hj6, hjf⟩ := bindJ_form (v := (s : Int)) hfd
          have hdl := form_len3 hfd
          have hbi := Lib.hid (fun vd W (hd : Nodes W vd d) => show Calls Try.prog 35 #[.int .i64 (s : Int), vd] W fun e w' => ∃ v, e = .returned v ∧ Fs w' v (bindJ (s : Int) d) ∧ Below W.heap.size W w' from by rw [bindJ_nat]; exact binding_any s hs6 vd d W hd hdl.1)
          have hcp := Lib.hid (fun vI W (hW : Below wr.heap.size wr W) (hJ : Fs W vI (bindJ (s : Int) d)) => composed_any (.slice (some ⟨G, o, none⟩) 8 cap) vI (a' :: b' :: Is) (bindJ (s : Int) d) W (hF.out.below hW (Nat.le_refl _)) (forms_okL fun I hI' => by
            rcases List.mem_cons.1 hI' with rfl | hI'
            · exact hI.out.fa
            rcases List.mem_cons.1 hI' with rfl | hI'
            · exact hI.out.fb
            · exact hI.out.fI I hI') hJ hj6 (fun I hI' => ⟨(form_len3 (hjf I hI')).1, by have := (form_len3 (hjf I hI')).2; omega⟩) (by simp [hI.out.h6]))
          have hL8 := Lib.hid (show (compL (a' :: b' :: Is) (bindJ (s : Int) d)).length = 8 by rw [compL_length]; simp [hI.out.h6])
          have hLL := Lib.hid (show compL (a' :: b' :: Is) (bindJ (s : Int) d) = subL (bindJ (s : Int) d) a' :: subL (bindJ (s : Int) d) b' :: compL Is (bindJ (s : Int) d) from rfl)
          clear hbs fpa fpb hka hkb hjf hj6 hdl hfd hv0 hv5
          go_upto_region 4 with fail
          go_cut [7] from 23 to 63 (fun s wx => s = .int .i64 (k : Int) ∧ Below wr.heap.size wr wx)
          case first =>
            (first | (go_region_with (first | (go_at_call 30; refine (hdf.out _ (by first | exact Below.refl _ _ | exact Below.drew (Below.refl _ _) | exact below_drewN' _ _)).mono ?_; rintro e w5 ⟨rfl, b5⟩))) | fail)
            all_goals
              have B5 : Below wr.heap.size wr w5 := ⟨b5.os, b5.tape, b5.output, b5.size, b5.block⟩
              go_wp2_with fail
              go_meet
              exact ⟨rfl, B5⟩
          case rest =>
            obtain ⟨rfl, B5⟩ := hcut
            have hca := keep_cell B5 hca
            have hcb := keep_cell B5 hcb
            have hPa2 := Lib.hid (fun W (hW : Below wc.heap.size wc W) => hPa.out W (B5.trans (hW.mono B5.size)))
            have hPb2 := Lib.hid (fun W (hW : Below wc.heap.size wc W) => hPb.out W (B5.trans (hW.mono B5.size)))
            go_upto_region 7 with fail
            go_cut [8, 9, 10] from 23 to 63 (fun q t z wx => q = .int .i64 (s : Int) ∧ z = .bool true ∧ Hid (Nodes wx t d) ∧ Below wc.heap.size wc wx)
            case first =>
              (first | (go_region_with (first
                | (go_at_call_of 32 va; refine (hPa2.out _ (by first | exact Below.refl _ _ | exact Below.drew (Below.refl _ _) | exact below_drewN' _ _)).mono ?_; rintro e w' ⟨⟨pv, rfl, hpv⟩, rfl⟩)
                | (go_at_call_of 32 vb; refine (hPb2.out _ (by first | exact Below.refl _ _ | exact Below.drew (Below.refl _ _) | exact below_drewN' _ _)).mono ?_; rintro e w' ⟨⟨pu, rfl, hpu⟩, rfl⟩)
                | (go_at_call 31; refine (htb.out pv pu _ hpv.out hpu.out).mono ?_; rintro e w6 ⟨⟨vd, rfl, hnd⟩, b6⟩))) | fail)
              all_goals
                have B6 : Below wc.heap.size wc w6 := ⟨b6.os, b6.tape, b6.output, b6.size, b6.block⟩
                go_wp2_with fail
                go_meet
                exact ⟨rfl, rfl, hnd, B6⟩
            case rest =>
              obtain ⟨rfl, rfl, hnd, B6⟩ := hcut
              have B7 : Below wr.heap.size wr wc := B5.trans (B6.mono B5.size)
              clear hPa2 hPb2 hPa hPb htb hdf hca hcb B5 B6
              go_wp2_with fail
              refine (hbi.out _ _ hnd.out).mono ?_
              rintro e w7 ⟨vI, rfl, hJ, b7⟩
              have B8 := keep_step b7 B7
              go_wp2_with fail
              refine (hcp.out vI _ B8 hJ).mono ?_
              rintro e w8 ⟨v8, rfl, hO8, b8⟩
              obtain ⟨G8, o8, cap8, hv8, hc8⟩ := hO8.shape (by rw [hL8.out]; omega)
              rw [hL8.out] at hv8 hc8
              subst hv8
              have B9 := keep_step b8 B8
              have hO8h := Lib.hid hO8
              clear hJ hO8
              go_wp2_with fail
              refine (limitedAll_any _ _ _ hO8h.out.fs).mono ?_
              rintro e w9 ⟨rfl, b9⟩
              have B10 := keep_step b9 B9
              have s7 := b7.size
              rcases hcs with ⟨hbig, hR⟩ | ⟨hbig, hI2⟩
              · have e1 : allC (compL (a' :: b' :: Is) (bindJ (s : Int) d)) = 3 := by unfold allC; rw [hLL.out, hbig]; rfl
                rw [e1]
                have hR := Lib.hid hR
                clear e1 hbig
                generalize allV (compL (a' :: b' :: Is) (bindJ (s : Int) d)) (Value.slice (some ⟨G8, o8, none⟩) 8 cap8) = av
                go_wp2_with fail
                go_ret2
                exact ⟨_, by rw [h3.out, hR.out]; rfl, by rw [h2.out, hR.out]; exact OwnSS.nil _ _, keep_step B10 hB⟩
              · have e1 : allC (compL (a' :: b' :: Is) (bindJ (s : Int) d)) = 0 := by unfold allC; rw [hLL.out, hbig]; rfl
                have e2 : allV (compL (a' :: b' :: Is) (bindJ (s : Int) d)) (Value.slice (some ⟨G8, o8, none⟩) 8 cap8) = Value.slice (some ⟨G8, o8, none⟩) 8 cap8 := by unfold allV; rw [hLL.out, hbig]; rfl
                rw [e1, e2]
                have hI2 := Lib.hid hI2
                clear e1 e2 hbig
                have hO9 := Lib.hid ((hO8h.out.below b9 (Nat.le_refl _)).up b9.size)
                have hwr := hB.size
                have hB7 := B7.size
                go_wp2_with fail
                go_roundg m
                case measure => have := hm.out; omega
                case rel => exact ⟨_, _, _, G8, o8, cap8, rfl, hc8, hO9.out.fs, (OwnSS.tail (a := subL (bindJ (s : Int) d) a') (b := subL (bindJ (s : Int) d) b') hO9.out).mono (by omega), hI2, keep_step B10 hB⟩
end Go.Proofs.Ytdpnkojchimmfaa
