/- UnifyFormulas: the reference's walk. -/
import Derived.Test.YtdpnkojchimmfaaQBUnifInv
import Derived.Test.YtdpnkojchimmfaaQBMatchSpec
import Derived.Test.YtdpnkojchimmfaaQBListFnsM
import Derived.Deep.LoopGhost
import Derived.Deep.CutRange
import Derived.BigQuiet

namespace Go.Proofs.Ytdpnkojchimmfaa
open Go.RowKit Go.Deep

theorem agree_get : ∀ (a b : List Nd) (j : Nat), j < agree a b → a[j]? = b[j]? := by
  intro a
  induction a with
  | nil => intro b j h; simp [agree] at h
  | cons x a ih =>
    intro b j h
    cases b with
    | nil => simp [agree] at h
    | cons y b =>
      unfold agree at h
      split at h
      · rename_i e
        subst e
        cases j with
        | zero => rfl
        | succ j => simpa using ih b j (by omega)
      · omega
theorem diffI_neg {a b : List Nd} (h : diffI a b = -1) : agree a b = a.length ∨ agree a b = b.length := by
  unfold diffI at h
  split at h
  · assumption
  · omega
theorem diffI_nat {a b : List Nd} {k : Nat} (h : diffI a b = (k : Nat)) : agree a b = k := by
  unfold diffI at h
  split at h
  · omega
  · omega
theorem vars_mem {d : List Nd} {v : Int} (hg : d.all nodeB = true) (hv0 : 0 ≤ v) (hv5 : v ≤ 5) : decide (v ∈ mem (varMask d)) = decide (v ∈ varL d) := by
  rw [← mem_varMask hg hv0]
  unfold mem membersL hasB
  rw [Bool.eq_iff_iff, decide_eq_true_eq, bitsUpto_mem]
  constructor
  · rintro ⟨i, rfl, _, h⟩
    rw [Int.toNat_natCast]; exact h
  · intro h
    exact ⟨v.toNat, by omega, by omega, h⟩

def bind1 (X Y : List Nd) : Option (Int × List Nd) := if (headN X).1 = 0 then (if (headN X).2 ∈ varL Y then none else some ((headN X).2, Y)) else none
def swapB (x y : List Nd) : Bool := decide ((headN y).1 = 0 ∧ ((headN x).1 ≠ 0 ∨ (headN x).2 < (headN y).2))
theorem bind_swap {x y : List Nd} (h : swapB x y = true) : bindOf x y = bind1 y x := by
  obtain ⟨h1, h2⟩ := of_decide_eq_true h
  unfold bindOf bind1
  rw [if_pos h1]
  by_cases h3 : (headN x).1 = 0
  · rw [if_pos h3, if_pos ⟨h1, by rcases h2 with h2 | h2; exact absurd h3 h2; exact h2⟩]
  · rw [if_neg h3]
theorem bind_keep {x y : List Nd} (h : swapB x y = false) : bindOf x y = bind1 x y := by
  have h0 := of_decide_eq_false h
  unfold bindOf bind1
  by_cases h3 : (headN x).1 = 0
  · rw [if_pos h3, if_pos h3, if_neg (fun e => h0 ⟨e.1, .inr e.2⟩)]
  · rw [if_neg h3, if_neg h3, if_neg (fun e => h0 ⟨e, .inl h3⟩)]

set_option maxHeartbeats 40000000 in
set_option maxRecDepth 100000 in
theorem l03Unify_any (v : Value) (a : List Nd) (u : Value) (b : List Nd) (w : World) (h : Nodes w v a) (hu : Nodes w u b) (ha : formB a = true) (hb : formB b = true) :
    Calls Try.prog 26 #[v, u] w fun e w' => ∃ v', e = .returned (.tuple #[v', .int .i64 (uniCode a b)]) ∧ Hid (Fs w' v' (uniR a b)) ∧ Below w.heap.size w w' := by
  obtain ⟨h2, h3⟩ := uni_yes (show form2 a b = true by unfold form2; rw [ha, hb]; rfl)
  have hst := Lib.hid (UnInv.start ha hb)
  have h2 := Lib.hid h2
  have h3 := Lib.hid h3
  have hh := Lib.hid h
  have huh := Lib.hid hu
  generalize unifGo 7 a b (selfL 6) = R0 at *
  clear ha hb h hu
  go_enter Try.func26, Try.ntmps26
  go_wp2_with fail
  refine (l03Self_any _).mono ?_
  rintro e w1 ⟨vi, ss, rfl, hS, hss, b1⟩
  have hFs := Lib.hid (show Fs w1 vi (selfL 6) from ⟨ss, reads_of_own hS.own, hS.el, hss⟩)
  have hha := Lib.hid (hh.out.below b1 (Nat.le_refl _))
  have hub := Lib.hid (huh.out.below b1 (Nat.le_refl _))
  clear hS hss hh huh
  go_wp2_with fail
  go_loopg [0, 1, 6] 7 (fun n va vb vi wr => ∃ (a' b' : List Nd) (Is : List (List Nd)), Hid (Nodes wr va a') ∧ Hid (Nodes wr vb b') ∧ Hid (Fs wr vi Is) ∧ Hid (UnInv n a' b' Is R0) ∧ Below w.heap.size w wr)
  case atStart => exact ⟨a, b, selfL 6, hha, hub, hFs, hst, b1⟩
  case round =>
    clear hha hub hFs hst b1
    obtain ⟨a', b', Is, hna, hnb, hF, hI, hB⟩ := hrel
    obtain ⟨m, hm, hcs⟩ := hI.out.cases
    have hm := Lib.hid hm
    have hka := form_len3 hI.out.fa
    have hkb := form_len3 hI.out.fb
    obtain ⟨ca, ba, oa, rfl, hca, _, hcella⟩ := hna.out.raw hka.1
    obtain ⟨cb, bb, ob, rfl, hcb, _, hcellb⟩ := hnb.out.raw hkb.1
    have hgeta := Lib.hid (fun k hk => nodes_get hcella.out (k := k) hk)
    have hgetb := Lib.hid (fun k hk => nodes_get hcellb.out (k := k) hk)
    have hag := Lib.hid (agree_get a' b')
    have hal := agree_le a' b'
    have hne := Lib.hid (agree_ne a' b')
    clear hcella hcellb
    generalize wr = W0 at *
    generalize gk = n0 at *
    go_wp2_with fail
    rcases hcs with ⟨hd, hR⟩ | ⟨k, hk1, hk2, hd, hcs⟩
    · have hend := diffI_neg hd
      have hR := Lib.hid hR
      clear hd hne
      generalize agree a' b' = k at *
      go_loopg [7] k (fun n i wx => ∃ j : Nat, j + n = k ∧ i = .int .i64 j ∧ Below W0.heap.size W0 wx)
      case atStart => exact ⟨0, by omega, rfl, Below.refl _ _⟩
      case round =>
        obtain ⟨j, hj, rfl, hbx⟩ := hrel
        by_cases hlt : j < k
        · obtain ⟨x, y, hx, hcx, hcy⟩ := hgeta.out j (by omega)
          obtain ⟨x', y', hx', hcx', hcy'⟩ := hgetb.out j (by omega)
          have he := hag.out j hlt
          rw [hx, hx'] at he
          obtain ⟨rfl, rfl⟩ : x = x' ∧ y = y' := by have := Option.some.inj he; exact ⟨congrArg Prod.fst this, congrArg Prod.snd this⟩
          clear hx hx' he
          have hcx := keep_cell hbx hcx
          have hcy := keep_cell hbx hcy
          have hcx' := keep_cell hbx hcx'
          have hcy' := keep_cell hbx hcy'
          have hia : (j : Int) < (a'.length : Int) := by omega
          have hib : (j : Int) < (b'.length : Int) := by omega
          go_wp2_with fail
          go_quiet (fail)
          go_wp2_with fail
          go_roundg (gk - 1)
          case measure => omega
          case rel => exact ⟨j + 1, by omega, by go_num, hbx.trans (below_drewN' _ _)⟩
        · obtain rfl : j = k := by omega
          by_cases hKa : j = a'.length
          · have hn1 : decide (j < a'.length) = false := decide_eq_false (by omega)
            have hq1 : ((j : Int) == (a'.length : Int)) = true := by simp [hKa]
            clear hKa hend
            go_wp2_with fail
            go_quiet (fail)
            go_wp2_with fail
            go_ret2
            exact ⟨_, by rw [h3.out, hR.out]; rfl, by rw [h2.out, hR.out]; exact Lib.hid (hF.out.below (hbx.trans (below_drewN' _ _)) (Nat.le_refl _)), keep_step (hbx.trans (below_drewN' _ _)) hB⟩
          · have hKb : j = b'.length := by omega
            have hn1 : ((j : Int) < (a'.length : Int)) := by omega
            have hn2 : decide (j < b'.length) = false := decide_eq_false (by omega)
            have hq1 : ((j : Int) == (a'.length : Int)) = false := by simp; omega
            have hq2 : ((j : Int) == (b'.length : Int)) = true := by simp [hKb]
            clear hKa hend hKb
            go_wp2_with fail
            go_quiet (fail)
            go_wp2_with fail
            go_ret2
            exact ⟨_, by rw [h3.out, hR.out]; rfl, by rw [h2.out, hR.out]; exact Lib.hid (hF.out.below (hbx.trans (below_drewN' _ _)) (Nat.le_refl _)), keep_step (hbx.trans (below_drewN' _ _)) hB⟩
    · have hKe := diffI_nat hd
      rw [hKe] at hag hne hal
      clear hd hKe
      go_loopg [7] k (fun n i wx => ∃ j : Nat, j + n = k ∧ i = .int .i64 j ∧ Below W0.heap.size W0 wx)
      case atStart => exact ⟨0, by omega, rfl, Below.refl _ _⟩
      case round =>
        obtain ⟨j, hj, rfl, hbx⟩ := hrel
        by_cases hlt : j < k
        · obtain ⟨x, y, hx, hcx, hcy⟩ := hgeta.out j (by omega)
          obtain ⟨x', y', hx', hcx', hcy'⟩ := hgetb.out j (by omega)
          have he := hag.out j hlt
          rw [hx, hx'] at he
          obtain ⟨rfl, rfl⟩ : x = x' ∧ y = y' := by have := Option.some.inj he; exact ⟨congrArg Prod.fst this, congrArg Prod.snd this⟩
          clear hx hx' he
          have hcx := keep_cell hbx hcx
          have hcy := keep_cell hbx hcy
          have hcx' := keep_cell hbx hcx'
          have hcy' := keep_cell hbx hcy'
          have hia : (j : Int) < (a'.length : Int) := by omega
          have hib : (j : Int) < (b'.length : Int) := by omega
          go_wp2_with fail
          go_quiet (fail)
          go_wp2_with fail
          go_roundg (gk - 1)
          case measure => omega
          case rel => exact ⟨j + 1, by omega, by go_num, hbx.trans (below_drewN' _ _)⟩
        · obtain rfl : j = k := by omega
          obtain ⟨x, y, hx, hcx, hcy⟩ := hgeta.out j hk1
          obtain ⟨x', y', hx', hcx', hcy'⟩ := hgetb.out j hk2
          have hdiff := Lib.hid (show ¬ (x = x' ∧ y = y') from fun e => hne.out hk1 hk2 (by rw [hx, hx', e.1, e.2]))
          clear hx hx' hlt hj
          have hcx := keep_cell hbx hcx
          have hcy := keep_cell hbx hcy
          have hcx' := keep_cell hbx hcx'
          have hcy' := keep_cell hbx hcy'
          have hia : (j : Int) < (a'.length : Int) := by omega
          have hib : (j : Int) < (b'.length : Int) := by omega
          have hq1 : ((j : Int) == (a'.length : Int)) = false := by simp; omega
          have hq2 : ((j : Int) == (b'.length : Int)) = false := by simp; omega
          go_upto_region 3 with fail
          go_cut [35] from 15 to 37 (fun q wx => q = .bool false ∧ Below W0.heap.size W0 wx)
          case first =>
            by_cases hxe : x = x'
            · have hye : (y == y') = false := by rw [beq_eq_false_iff_ne]; exact fun h => hdiff.out ⟨hxe, h⟩
              subst hxe
              go_quiet (fail)
              go_wp2_with fail
              go_meet
              exact ⟨rfl, hbx.trans (below_drewN' _ _)⟩
            · have hye : (x == x') = false := by rw [beq_eq_false_iff_ne]; exact hxe
              clear hxe
              go_quiet (fail)
              go_wp2_with fail
              go_meet
              exact ⟨rfl, hbx.trans (below_drewN' _ _)⟩
          case rest =>
            obtain ⟨rfl, B5⟩ := hcut
            obtain ⟨ma, ha0, ha1, hae⟩ := part_in hI.out.fa hk1
            obtain ⟨mb, hb0, hb1, hbe⟩ := part_in hI.out.fb hk2
            have hpA := Lib.hid (fun W (hW : Below W0.heap.size W0 W) => show Calls Try.prog 57 #[.slice (some ⟨ba, oa, none⟩) a'.length ca, .int .i64 (j : Int)] W fun e w' => e = .returned (.int .i64 ((j + ma : Nat) : Int)) ∧ W = w' from by
              have h9 := l02Part_any _ a' (j : Int) W (hna.out.below hW (Nat.le_refl _)) (by omega) (by omega) (by omega)
              rw [Int.toNat_natCast, hae] at h9
              exact h9)
            have hpB := Lib.hid (fun W (hW : Below W0.heap.size W0 W) => show Calls Try.prog 57 #[.slice (some ⟨bb, ob, none⟩) b'.length cb, .int .i64 (j : Int)] W fun e w' => e = .returned (.int .i64 ((j + mb : Nat) : Int)) ∧ W = w' from by
              have h9 := l02Part_any _ b' (j : Int) W (hnb.out.below hW (Nat.le_refl _)) (by omega) (by omega) (by omega)
              rw [Int.toNat_natCast, hbe] at h9
              exact h9)
            have hnA := Lib.hid (fun W (hW : Below W0.heap.size W0 W) => nodes_slice (c := ca - j) (hna.out.below hW (Nat.le_refl _)) hka.1 hae ha1 (by omega) hka.2)
            have hnB := Lib.hid (fun W (hW : Below W0.heap.size W0 W) => nodes_slice (c := cb - j) (hnb.out.below hW (Nat.le_refl _)) hkb.1 hbe hb1 (by omega) hkb.2)
            have hs0 : (0 : Int) ≤ (j : Int) := by omega
            have hs1 : (j : Int) ≤ ((j + ma : Nat) : Int) := by omega
            have hs2 : ((j + ma : Nat) : Int) ≤ (ca : Int) := by omega
            have hs3 : (j : Int) ≤ ((j + mb : Nat) : Int) := by omega
            have hs4 : ((j + mb : Nat) : Int) ≤ (cb : Int) := by omega
            clear hae hbe hcx hcy hcx' hcy' hbx
            go_upto_region 7 with fail
            go_cut [8, 9] from 15 to 132 (fun q t wx => Hid (Nodes wx q (partL a' j)) ∧ Hid (Nodes wx t (partL b' j)) ∧ Below W0.heap.size W0 wx)
            case first =>
              go_quiet (first | (go_at_call_of 57 a'; exact quiet_eq (hpA.out _ (B5.trans (below_drewN' _ _)))) | (go_at_call_of 57 b'; exact quiet_eq (hpB.out _ (B5.trans (below_drewN' _ _)))))
              go_wp2_with fail
              go_meet
              have e1 : j + ma - j = ma := by omega
              have e2 : j + mb - j = mb := by omega
              rw [e1, e2]
              exact ⟨hnA.out _ (B5.trans (below_drewN' _ _)), hnB.out _ (B5.trans (below_drewN' _ _)), B5.trans (below_drewN' _ _)⟩
            case rest =>
              obtain ⟨hX, hY, B6⟩ := hcut
              have fpa := (part_form hI.out.fa hk1).1
              have fpb := (part_form hI.out.fb hk2).1
              clear hpA hpB hnA hnB hs0 hs1 hs2 hs3 hs4 B5 hdiff
              generalize hpx : partL a' j = px at *
              generalize hpy : partL b' j = py at *
              replace hpx := Lib.hid hpx
              replace hpy := Lib.hid hpy
              clear hq1 hq2
              have hlx := form_len3 fpa
              have hly := form_len3 fpb
              obtain ⟨cx, bx, ox, rfl, hcx1, _, hx0, hx1⟩ := head_cell hX.out hlx.1
              obtain ⟨cy, by', oy, rfl, hcy1, _, hy0, hy1⟩ := head_cell hY.out hly.1
              have hsw := Lib.hid (@bind_swap px py)
              have hkp := Lib.hid (@bind_keep px py)
              have hswd : swapB px py = decide ((headN py).1 = 0 ∧ ((headN px).1 ≠ 0 ∨ (headN px).2 < (headN py).2)) := rfl
              have hpx0 := hlx.1
              have hpy0 := hly.1
              generalize hB0 : swapB px py = sw at *
              replace hB0 := Lib.hid hB0
              generalize hkx : (headN px).1 = kx at *
              generalize hsx : (headN px).2 = sx at *
              generalize hky : (headN py).1 = ky at *
              generalize hsy : (headN py).2 = sy at *
              replace hkx := Lib.hid hkx
              replace hsx := Lib.hid hsx
              replace hky := Lib.hid hky
              replace hsy := Lib.hid hsy
              replace hswd := Lib.hid hswd
              generalize hlX : px.length = lx at *
              generalize hlY : py.length = ly at *
              replace hlX := Lib.hid hlX
              replace hlY := Lib.hid hlY
              go_upto_region 8 with fail
              go_cut [83] from 15 to 132 (fun q wx => q = .bool sw ∧ Below wc.heap.size wc wx)
              case first =>
                by_cases h1 : ky = 0
                · by_cases h2 : kx = 0
                  · by_cases h4 : sx < sy
                    · have e0 : sw = true := by rw [hswd.out]; exact decide_eq_true ⟨h1, .inr h4⟩
                      subst e0 h1 h2
                      go_quiet (fail)
                      go_wp2_with fail
                      go_meet
                      exact ⟨rfl, below_drewN' _ _⟩
                    · have e0 : sw = false := by rw [hswd.out]; exact decide_eq_false fun e => by rcases e.2 with e | e; exact e h2; exact h4 e
                      have e4 : decide (sx < sy) = false := decide_eq_false h4
                      subst e0 h1 h2
                      go_quiet (fail)
                      go_wp2_with fail
                      go_meet
                      exact ⟨rfl, below_drewN' _ _⟩
                  · have e0 : sw = true := by rw [hswd.out]; exact decide_eq_true ⟨h1, .inl h2⟩
                    have e2 : (kx != 0) = true := by rw [bne_iff_ne]; exact h2
                    clear h2
                    subst e0 h1
                    go_quiet (fail)
                    go_wp2_with fail
                    go_meet
                    exact ⟨rfl, below_drewN' _ _⟩
                · have e0 : sw = false := by rw [hswd.out]; exact decide_eq_false fun e => h1 e.1
                  have e2 : (ky == 0) = false := by rw [beq_eq_false_iff_ne]; exact h1
                  clear h1
                  subst e0
                  go_quiet (fail)
                  go_wp2_with fail
                  go_meet
                  exact ⟨rfl, below_drewN' _ _⟩
              case rest =>
                obtain ⟨rfl, B7⟩ := hcut
                have B8 := B6.trans (B7.mono B6.size)
                go_upto_if 83 with fail
                go_cut [8, 9, 10] from 15 to 132 (fun q t z wx => ∃ (X Y : List Nd), Hid (Nodes wx q X) ∧ Hid (Nodes wx t Y) ∧ Hid (formB X = true ∧ formB Y = true ∧ bindOf px py = bind1 X Y) ∧ Below W0.heap.size W0 wx)
                case first =>
                  cases sw
                  · go_wp2_with fail
                    go_meet
                    exact ⟨px, py, Lib.hid (hX.out.below B7 (Nat.le_refl _)), Lib.hid (hY.out.below B7 (Nat.le_refl _)), ⟨fpa, fpb, hkp.out (by simp)⟩, B8⟩
                  · go_wp2_with fail
                    go_meet
                    exact ⟨py, px, Lib.hid (hY.out.below B7 (Nat.le_refl _)), Lib.hid (hX.out.below B7 (Nat.le_refl _)), ⟨fpb, fpa, hsw.out (by simp)⟩, B8⟩
                case rest =>
                  clear hX hY hx0 hx1 hy0 hy1 hsw hkp hswd hB0 hkx hsx hky hsy hlX hlY hcx1 hcy1 hlx hly hpx0 hpy0 B6 B7 B8 fpa fpb
                  obtain ⟨X, Y, hX, hY, hXY, B8⟩ := hcut
                  have hlX := form_len3 hXY.out.1
                  have hlY := form_len3 hXY.out.2.1
                  have hgY := form_all hXY.out.2.1
                  have hgX := form_all hXY.out.1
                  have hvs := Lib.hid (fun W (hW : Below wc.heap.size wc W) => l02Variables_any _ Y W (hY.out.below hW (Nat.le_refl _)) hgY)
                  obtain ⟨cX, bX, oX, rfl, hcX, _, hX0, hX1⟩ := head_cell hX.out hlX.1
                  have hXp := hlX.1
                  by_cases hk0 : (headN X).1 = 0
                  · have hs := head_var hgX hlX.1 hk0
                    have hmem := Lib.hid (vars_mem hgY hs.1 hs.2)
                    have hbd := Lib.hid (show bindOf px py = if (headN X).2 ∈ varL Y then none else some ((headN X).2, Y) from by rw [hXY.out.2.2]; unfold bind1; rw [if_pos hk0])
                    rw [hk0] at hX0
                    clear hk0
                    generalize (headN X).2 = sX at *
                    generalize X.length = lX at *
                    go_upto_region 12 with fail
                    go_cut [100] from 15 to 132 (fun q wx => q = .bool (decide (sX ∈ varL Y)) ∧ Below wc.heap.size wc wx)
                    case first =>
                      (first | (go_region_with (first
                        | (go_at_call 59; refine (hvs.out _ (by first | exact Below.refl _ _ | exact Below.drew (Below.refl _ _) | exact below_drewN' _ _)).mono ?_; rintro e w5 ⟨vv, rfl, hov, b5⟩; have hc5 := keep_cell b5 hX1)
                        | (go_at_call 58; refine (l01Has_any vv _ sX _ ((ints_of_own hov).below (by first | exact Below.refl _ _ | exact Below.drew (Below.refl _ _) | exact below_drewN' _ _) (Nat.le_refl _))).mono ?_; rintro e w6 ⟨rfl, rfl⟩))) | fail)
                      all_goals
                        have B9 : Below wc.heap.size wc w5 := ⟨b5.os, b5.tape, b5.output, b5.size, b5.block⟩
                        go_wp2_with fail
                        go_meet
                        exact ⟨by rw [hmem.out], by first | exact B9 | exact B9.drew | exact below_drewN B9 _⟩
                    case rest =>
                      obtain ⟨rfl, B9⟩ := hcut
                      have B10 := B8.trans (B9.mono B8.size)
                      by_cases hin : sX ∈ varL Y
                      · have hR : R0 = ([], 4) := by
                          rcases hcs with ⟨_, hR⟩ | ⟨s, d, hbs, _⟩
                          · exact hR
                          · rw [hbd.out, if_pos hin] at hbs; cases hbs
                        rw [decide_eq_true hin]
                        replace hR := Lib.hid hR
                        clear hcs hin hmem hbd hvs
                        go_wp2_with fail
                        go_ret2
                        exact ⟨_, by rw [h3.out, hR.out]; rfl, by rw [h2.out, hR.out]; exact (OwnSS.nil _ 0).fs, keep_step B10 hB⟩
                      · rcases hcs with ⟨hbn, _⟩ | ⟨s, d, hbs, hv0, hv5, hfd, hcs⟩
                        · rw [hbd.out, if_neg hin] at hbn; cases hbn
                        obtain ⟨rfl, rfl⟩ : sX = s ∧ Y = d := by rw [hbd.out, if_neg hin] at hbs; simpa using hbs
                        rw [decide_eq_false hin]
                        obtain ⟨s, rfl⟩ := Int.eq_ofNat_of_zero_le hv0
                        have hs6 : s < 6 := by omega
                        have hX1' := keep_cell B9 hX1
                        have hY2 := Lib.hid (hY.out.below B9 (Nat.le_refl _))
                        obtain ⟨hj6, hjf⟩ := bindJ_form (v := (s : Int)) hfd
                        have hj0 : ∀ I ∈ bindJ (s : Int) Y, 0 < I.length ∧ I.length ≤ 1000 := fun I hI' => ⟨(form_len3 (hjf I hI')).1, by have := (form_len3 (hjf I hI')).2; omega⟩
                        have hbi := Lib.hid (show ∀ W, Below wc.heap.size wc W → Calls Try.prog 60 #[.int .i64 (s : Int), _] W fun e w' => ∃ v, e = .returned v ∧ Fs w' v (bindJ (s : Int) Y) ∧ Below W.heap.size W w' from fun W hW => by rw [bindJ_nat]; exact l03Bind_any s hs6 _ Y W (hY2.out.below hW (Nat.le_refl _)) hlY.1 (by have := hlY.2; omega))
                        have hsa := Lib.hid (fun vI W (hW : Below W0.heap.size W0 W) (hJ : Fs W vI (bindJ (s : Int) Y)) => l03Sub_any _ vI a' (bindJ (s : Int) Y) W (hna.out.below hW (Nat.le_refl _)) hka.2 hka.1 (form_all hI.out.fa) hJ hj6 hj0)
                        have hsb := Lib.hid (fun vI W (hW : Below W0.heap.size W0 W) (hJ : Fs W vI (bindJ (s : Int) Y)) => l03Sub_any _ vI b' (bindJ (s : Int) Y) W (hnb.out.below hW (Nat.le_refl _)) hkb.2 hkb.1 (form_all hI.out.fb) hJ hj6 hj0)
                        have hth := Lib.hid (fun vI W (hW : Below W0.heap.size W0 W) (hJ : Fs W vI (bindJ (s : Int) Y)) => l03Then_any _ vI Is (bindJ (s : Int) Y) W (hF.out.below hW (Nat.le_refl _)) (forms_okL hI.out.fI) hJ hj6 hj0 (by rw [hI.out.h6]; omega))
                        clear hbs hmem hbd hvs hj6 hjf hj0 hin hfd hv0 hv5 hX0 hX1
                        go_wp2_with fail
                        refine (hbi.out _ (Below.refl _ _)).mono ?_
                        rintro e w7 ⟨vJ, rfl, hJ, b7⟩
                        have B11 := keep_step b7 B10
                        have hJ := Lib.hid hJ
                        go_wp2_with fail
                        refine (hsa.out vJ _ B11 hJ.out).mono ?_
                        rintro e w8 ⟨va8, rfl, ho8, b8⟩
                        have B12 := keep_step b8 B11
                        have hn8 := Lib.hid (nodes_of_own ho8)
                        have hJ8 := Lib.hid (hJ.out.below b8 (Nat.le_refl _))
                        clear ho8
                        obtain ⟨aa8, ca8, rfl⟩ := hn8.out.shape
                        go_wp2_with fail
                        refine (hsb.out vJ _ B12 hJ8.out).mono ?_
                        rintro e w9 ⟨vb9, rfl, ho9, b9⟩
                        have B13 := keep_step b9 B12
                        have hn9 := Lib.hid (nodes_of_own ho9)
                        have hJ9 := Lib.hid (hJ8.out.below b9 (Nat.le_refl _))
                        have hn8' := Lib.hid (hn8.out.below b9 (Nat.le_refl _))
                        clear ho9
                        obtain ⟨ab9, cb9, rfl⟩ := hn9.out.shape
                        go_wp2_with fail
                        refine (hth.out vJ _ B13 hJ9.out).mono ?_
                        rintro e w10 ⟨vc, rfl, hO10, b10⟩
                        have B14 := keep_step b10 B13
                        have hF10 := Lib.hid hO10.fs
                        have hn8'' := Lib.hid (hn8'.out.below b10 (Nat.le_refl _))
                        have hn9' := Lib.hid (hn9.out.below b10 (Nat.le_refl _))
                        clear hO10
                        go_wp2_with fail
                        refine (l03All_any vc _ _ hF10.out).mono ?_
                        rintro e w11 ⟨rfl, rfl⟩
                        have hbc : bigB (subL (bindJ (s : Int) Y) a' :: subL (bindJ (s : Int) Y) b' :: compL Is (bindJ (s : Int) Y)) = (decide (40 < (subL (bindJ (s : Int) Y) a').length) || (decide (40 < (subL (bindJ (s : Int) Y) b').length) || bigB (compL Is (bindJ (s : Int) Y)))) := rfl
                        rw [hbc] at hcs
                        have hlen8 := hn8.out.cap
                        have hlen9 := hn9.out.cap
                        clear hbc hn8 hn8' hn9 hJ hJ8 hJ9 b7 b8 b9 b10 hsa hsb hth hbi B9 B10 B11 B12 B13
                        cases h8 : bigB (compL Is (bindJ (s : Int) Y)) with
                        | true =>
                          rw [h8, Bool.or_true, Bool.or_true] at hcs
                          have hR : R0 = ([], 3) := by
                            rcases hcs with ⟨_, hR⟩ | ⟨h9, _⟩
                            · exact hR
                            · cases h9
                          have e1 : allC (compL Is (bindJ (s : Int) Y)) = 3 := by unfold allC; rw [h8]; rfl
                          rw [e1]
                          replace hR := Lib.hid hR
                          clear e1 h8 hcs
                          generalize allV (compL Is (bindJ (s : Int) Y)) vc = av at *
                          generalize (subL (bindJ (s : Int) Y) a').length = l8 at *
                          generalize (subL (bindJ (s : Int) Y) b').length = l9 at *
                          go_wp2_with fail
                          go_ret2
                          exact ⟨_, by rw [h3.out, hR.out]; rfl, by rw [h2.out, hR.out]; exact (OwnSS.nil _ 0).fs, keep_step B14 hB⟩
                        | false =>
                          have e1 : allC (compL Is (bindJ (s : Int) Y)) = 0 := by unfold allC; rw [h8]; rfl
                          rw [e1]
                          rw [h8, Bool.or_false] at hcs
                          clear e1 h8
                          generalize allV (compL Is (bindJ (s : Int) Y)) vc = av at *
                          by_cases h40a : 40 < (subL (bindJ (s : Int) Y) a').length
                          · have hR : R0 = ([], 3) := by
                              rcases hcs with ⟨_, hR⟩ | ⟨h9, _⟩
                              · exact hR
                              · rw [decide_eq_true h40a] at h9; cases h9
                            replace hR := Lib.hid hR
                            clear hcs
                            generalize (subL (bindJ (s : Int) Y) a').length = l8 at *
                            generalize (subL (bindJ (s : Int) Y) b').length = l9 at *
                            have h40i : (40 : Int) < (l8 : Int) := by omega
                            clear h40a
                            go_wp2_with fail
                            go_ret2
                            exact ⟨_, by rw [h3.out, hR.out]; rfl, by rw [h2.out, hR.out]; exact (OwnSS.nil _ 0).fs, keep_step B14 hB⟩
                          · by_cases h40b : 40 < (subL (bindJ (s : Int) Y) b').length
                            · have hR : R0 = ([], 3) := by
                                rcases hcs with ⟨_, hR⟩ | ⟨h9, _⟩
                                · exact hR
                                · rw [decide_eq_true h40b, Bool.or_true] at h9; cases h9
                              replace hR := Lib.hid hR
                              clear hcs
                              generalize (subL (bindJ (s : Int) Y) a').length = l8 at *
                              generalize (subL (bindJ (s : Int) Y) b').length = l9 at *
                              have h40i : (40 : Int) < (l9 : Int) := by omega
                              have h40j : ¬ ((40 : Int) < (l8 : Int)) := by omega
                              clear h40a h40b
                              go_wp2_with fail
                              go_ret2
                              exact ⟨_, by rw [h3.out, hR.out]; rfl, by rw [h2.out, hR.out]; exact (OwnSS.nil _ 0).fs, keep_step B14 hB⟩
                            · have hI2 : UnInv m (subL (bindJ (s : Int) Y) a') (subL (bindJ (s : Int) Y) b') (compL Is (bindJ (s : Int) Y)) R0 := by
                                rcases hcs with ⟨h9, _⟩ | ⟨_, h9⟩
                                · rw [decide_eq_false h40a, decide_eq_false h40b] at h9; cases h9
                                · exact h9
                              have hI2 := Lib.hid hI2
                              clear hcs
                              have h40i : ¬ ((40 : Int) < ((subL (bindJ (s : Int) Y) b').length : Int)) := by omega
                              have h40j : ¬ ((40 : Int) < ((subL (bindJ (s : Int) Y) a').length : Int)) := by omega
                              clear h40a h40b
                              generalize hA8 : subL (bindJ (s : Int) Y) a' = A8 at *
                              generalize hB8 : subL (bindJ (s : Int) Y) b' = B8' at *
                              replace hA8 := Lib.hid hA8
                              replace hB8 := Lib.hid hB8
                              generalize hl8 : A8.length = l8 at *
                              generalize hl9 : B8'.length = l9 at *
                              replace hl8 := Lib.hid hl8
                              replace hl9 := Lib.hid hl9
                              go_wp2_with fail
                              go_roundg m
                              case measure => have := hm.out; omega
                              case rel => exact ⟨A8, B8', _, hn8'', hn9', hF10, hI2, keep_step B14 hB⟩
                  · have hbd := Lib.hid (show bindOf px py = none from by rw [hXY.out.2.2]; unfold bind1; rw [if_neg hk0])
                    have e2 : ((headN X).1 != 0) = true := by rw [bne_iff_ne]; exact hk0
                    have hR : R0 = ([], 4) := by
                      rcases hcs with ⟨_, hR⟩ | ⟨s, d, hbs, _⟩
                      · exact hR
                      · rw [hbd.out] at hbs; cases hbs
                    replace hR := Lib.hid hR
                    clear hk0 hcs
                    generalize (headN X).1 = kX at *
                    generalize (headN X).2 = sX at *
                    generalize X.length = lX at *
                    go_wp2_with fail
                    go_quiet (fail)
                    go_wp2_with fail
                    go_ret2
                    exact ⟨_, by rw [h3.out, hR.out]; rfl, by rw [h2.out, hR.out]; exact (OwnSS.nil _ 0).fs, keep_step (B8.trans (below_drewN' _ _)) hB⟩
end Go.Proofs.Ytdpnkojchimmfaa
