/- impl.ResolutionClosure. -/
import Derived.Test.YtobbhflajkhcdaaCloLoop
import Derived.Test.YtobbhflajkhcdaaCopyII
import Derived.Test.YtobbhflajkhcdaaResList
import Derived.Test.YtobbhflajkhcdaaFb
namespace Go.Proofs.Ytobbhflajkhcdaa
open Go.RowKit Go.Lib
set_option linter.unusedVariables false
set_option linter.unusedSimpArgs false

def cloCode (Is : List (List Int)) : Int := if Is.all clauseB then 0 else 1
theorem all_memC {Is : List (List Int)} (h : Is.all clauseB = true) : ∀ I ∈ Is, clauseB I = true := by simpa using h
/-- What the answer is. -/
def isCloR (Is R : List (List Int)) : Prop := if Is.all clauseB then isClo Is R else R = []
theorem nodup_strict {L : List (List Int)} (h : L.Pairwise ltI) : L.Nodup := List.Pairwise.imp (fun {a b} (h : ltI a b) => show a ≠ b from fun e => lo_lists.irr b (by rw [e] at h; exact h)) h
theorem zero_bool (w : World) : (zeroValue 4).run Try.prog w = .ok (.bool false) w := by kernel_rfl
theorem concatRes_any (lo1 lo2 : Nat) (W : World) (a1 a2 : Option Addr) (n1 c1 n2 c2 : Nat) (rs1 rs2 : List SlI) (L1 L2 : List (List Int)) (h1 : ResAt lo1 W a1 n1 c1 rs1 L1) (h2 : ResAt lo2 W a2 n2 c2 rs2 L2) (hl1 : L1.length ≤ 1) (hl2 : L2.length ≤ 1) :
    Calls Try.prog 20 #[.slice (some ⟨W.heap.size, 0, none⟩) 2 2] (W.alloc (.cells #[.slice a1 n1 c1, .slice a2 n2 c2] 22)) fun e w' => ∃ a3 n3 c3, e = .returned (.slice a3 n3 c3) ∧ Hid (n3 = (rs1 ++ rs2).length ∧ SlicesI w' (.slice a3 (rs1 ++ rs2).length c3) (rs1 ++ rs2) ∧ ∀ k, (Value.slice a3 (rs1 ++ rs2).length c3).ownBlock = some k → W.heap.size < k ∧ k < w'.heap.size) ∧ Below (W.alloc (.cells #[.slice a1 n1 c1, .slice a2 n2 c2] 22)).heap.size (W.alloc (.cells #[.slice a1 n1 c1, .slice a2 n2 c2] 22)) w' := by
  have hb := (Below.refl W.heap.size W).alloc (Nat.le_refl _) (.cells #[.slice a1 n1 c1, .slice a2 n2 c2] 22)
  have e1 : rs1.length ≤ 1 := by have := congrArg List.length h1.vals; rw [List.length_map] at this; omega
  have e2 : rs2.length ≤ 1 := by have := congrArg List.length h2.vals; rw [List.length_map] at this; omega
  have q1 := h1.len
  have q2 := h2.len
  have hone : ∀ (rs : List SlI), ∀ u ∈ rs.map slVI, u.oneCell' = true := fun rs u hu => by
    obtain ⟨s, _, rfl⟩ := List.mem_map.1 hu
    rfl
  refine (concat2II_any W.heap.size a1 a2 n1 c1 n2 c2 (rs1.map slVI) (rs2.map slVI) _ (by simp) (by simp) (h1.reads.below hb (Nat.le_refl _)) (h2.reads.below hb (Nat.le_refl _)) (hone rs1) (hone rs2) (by omega) (by omega)).mono ?_
  rintro e w' ⟨v', rfl, ho, hb'⟩
  rw [← List.map_append] at ho
  have hr := reads_of_own ho
  have hn : n1 + n2 = (rs1 ++ rs2).length := by rw [List.length_append]; omega
  rw [hn] at hr ho
  have hr2 := hr
  obtain ⟨_, _, a3, c3, _, _, rfl, _⟩ := hr
  refine ⟨a3, _, c3, rfl, Lib.hid ⟨rfl, hr2, fun k hk => ?_⟩, hb'⟩
  have h3 := ho.lt k hk
  simp at h3
  omega
set_option maxHeartbeats 16000000 in
set_option maxRecDepth 100000 in
theorem implClosure_any (v : Value) (Is R : List (List Int)) (w : World) (h : Fi w v Is) (hn : Is.length ≤ 1048576) (hl : ∀ I ∈ Is, I.length ≤ 1048576) (hR : isCloR Is R) :
    Calls Try.prog 7 #[v] w fun e w' => ∃ v', e = .returned (.tuple #[v', .int .i64 (cloCode Is)]) ∧ OwnII w.heap.size w'.heap.size w' v' R ∧ Below w.heap.size w w' := by
  have hcl := Lib.hid (areClauses_any v Is w h)
  cases hall : Is.all clauseB
  · have hcode : cloCode Is = 1 := by unfold cloCode; rw [hall]; rfl
    obtain rfl : R = [] := by unfold isCloR at hR; rw [hall] at hR; simpa using hR
    rw [hcode]
    rw [hall] at hcl
    clear h hcode hall hR
    have hnil := Lib.hid (fun (W : World) (hb : Below w.heap.size w W) => (OwnII.nil W w.heap.size))
    go_enter Try.func7, Try.ntmps7
    go_wp2_with fail
    refine hcl.out.mono ?_
    rintro e w1 ⟨rfl, b1⟩
    go_wp2_with fail
    go_ret2
    exact ⟨_, rfl, hnil.out _ b1, b1⟩
  · have hcode : cloCode Is = 0 := by unfold cloCode; rw [hall]; rfl
    have hclo := Lib.hid (show isClo Is R by unfold isCloR at hR; rw [hall] at hR; exact hR)
    have hIs := Lib.hid (all_memC hall)
    rw [hcode]
    rw [hall] at hcl
    clear hcode hall hR
    have hcp := Lib.hid (fun W (hb : Below w.heap.size w W) => copyLists_any v Is W (h.below hb (Nat.le_refl _)) hn hl)
    obtain ⟨i0, hi, hz0, hz1, hz2⟩ := info_parts info_ints
    have hmm := @run_makeMap Try.prog
    clear h
    go_enter Try.func7, Try.ntmps7
    go_wp2_with fail
    refine hcl.out.mono ?_
    rintro e w1 ⟨rfl, b1⟩
    go_wp2_with fail
    refine (hcp.out _ b1).mono ?_
    rintro e w2 ⟨v2, ss2, rfl, g2, hs2, b2⟩
    have hlen2 : ss2.length = Is.length := by have := congrArg List.length hs2.out; simpa using this
    have b2 := keep_step b2 b1
    have hsrt := Lib.hid (sortedLists_any w.heap.size v2 ss2 w2 ⟨own_mono g2.own b1.size, fun s hs => own_mono (g2.row s hs) b1.size, g2.ap, g2.pw, b2.size⟩ (by omega))
    have b2h := Lib.hid b2
    clear g2 b1 b2 hlen2
    go_wp2_with fail
    refine hsrt.out.mono ?_
    rintro e w3 ⟨v3, ss3, rfl, g3, hs3, b3⟩
    have b3 := b2h.out.trans b3
    have hst := Lib.hid (CloSt.begin (Is := Is) (nodup_strict hs3.out.1) (fun x => by rw [hs3.out.2, hs2.out]))
    have hlen3 := hst.out.len hIs.out
    rw [List.length_map] at hlen3
    have b3h := Lib.hid b3
    have g3h := Lib.hid g3
    obtain ⟨_, a3, c3, bb3, oo3, rfl, hc3, ha3, _⟩ := g3.slices.opened
    have hk3 := b3.size
    clear hsrt hs2 hs3 g3 b3 b2h ha3
    go_wp2_with fail
    have hB3 := Lib.hid (b3h.out.alloc hk3 (.map #[] 0))
    have hg3 := Lib.hid (g3h.out.below ((Below.refl w3.heap.size w3).alloc (Nat.le_refl _) (.map #[] 0)))
    have hm3 := Lib.hid (mapV_made Try.prog 2 w3)
    have hkeyW := Lib.hid (fun (s : SlI) (hc : clauseB s.2 = true) (W : World) (hi : Ints W (slVI s) s.2) => clauseKey_any (slVI s) s.2 W hi (fun x hx => clause_in hc hx))
    clear b3h g3h
    generalize hW3 : w3.alloc (.map #[] 0) = w4 at *
    clear hW3
    generalize w3.heap.size = B at *
    go_loopw [21] (fun s21 wr => ∃ (k : Nat) (f : Int → Option Value), k ≤ ss3.length ∧ s21 = .int .i64 k ∧ Hid (MapV Try.prog 2 wr B k f) ∧ Hid (SeenF f ((ss3.map Prod.snd).take k)) ∧ Hid (GrowI w.heap.size wr (.slice a3 ss3.length c3) ss3) ∧ Below w.heap.size w wr) (fun s21 _ => ss3.length - (intOf s21).toNat)
    case atStart => exact ⟨0, _, Nat.zero_le _, rfl, hm3, Lib.hid seenF_nil, hg3, hB3.out⟩
    case round =>
      clear hB3 hg3 hm3
      obtain ⟨k, f, hk, rfl, hm, hf, hg, hb⟩ := hrel
      by_cases hlt : k < ss3.length
      · obtain ⟨g, rfl⟩ := own_addr hg.out.own (by omega)
        obtain ⟨s, hs⟩ : ∃ s, ss3[k]? = some s := ⟨_, List.getElem?_eq_getElem hlt⟩
        have hc0 : wr.cell? ⟨g, k, none⟩ = some (slVI s) := by rw [hg.out.own.cellAt k (by omega), List.getElem?_map, hs]; rfl
        have hcls := hst.out.clauses hIs.out (x := s.2) (List.mem_map.2 ⟨s, List.mem_of_getElem? hs, rfl⟩)
        have hkey := Lib.hid (hkeyW.out s hcls wr (ints_of_own (hg.out.row s (List.mem_of_getElem? hs))))
        have hf2 := Lib.hid (show SeenF (setF f ((orBits s.2 : Nat) : Int) (.bool true)) ((ss3.map Prod.snd).take (k + 1)) by
          rw [List.take_add_one, List.getElem?_map, hs]
          exact hf.out.add hcls)
        have hwf := key_wf hcls
        have hs := Lib.hid hs
        have hkm : k < maxLen := by unfold maxLen; omega
        obtain ⟨⟨sa, sn, sc⟩, sx⟩ := s
        unfold slVI at hc0 hkey
        dsimp only at hc0 hkey hf2 hwf hcls
        generalize ((orBits sx : Nat) : Int) = key at *
        go_wp2_with (first | (go_at_call 19; refine hkey.out.mono ?_; rintro e w' ⟨rfl, rfl⟩) | (at_mapUpdate; refine wpList_update_mapV rfl _ _ _ 36 rfl 2 4 Try.underlying2 Try.underlying36 B k f rfl hm.out hkm key _ rfl rfl hwf ?_; intro w5 hm5 hg5))
        have hm5 := Lib.hid hm5
        have hgr5 := Lib.hid (hg.out.mapped hm.out hg5)
        have hb5 := Lib.hid (hb.grown hg5 hb.size (fun j hj => by
          obtain rfl : B = j := by simpa using hj
          exact hk3))
        go_roundw
        case rel => exact ⟨k + 1, _, by omega, by go_num, hm5, hf2, hgr5, hb5.out⟩
        case measure => simp [intOf]; omega
      · obtain rfl : k = ss3.length := by omega
        go_wp2_with fail
        have hS0 : ImpSt w.heap.size B Is w wr (.slice a3 ss3.length c3) ss3 f 0 0 := ⟨hg.out, hst.out, hm.out, by have := hf.out; rwa [List.take_of_length_le (by rw [List.length_map]; exact Nat.le_refl _)] at this, hb⟩
        have hS0 := Lib.hid hS0
        clear hst hm hf hg hb
        go_loopw [4, 8] (fun v s8 wr => ∃ (j : Nat) (ss : List SlI) (f : Int → Option Value), s8 = .int .i64 j ∧ j ≤ ss.length ∧ Hid (ImpSt w.heap.size B Is w wr v ss f j 0)) (fun _ s8 _ => 4097 - (intOf s8).toNat)
        case atStart => exact ⟨0, ss3, f, rfl, Nat.zero_le _, hS0⟩
        case round =>
          clear hS0
          obtain ⟨j, ss, f, rfl, hj, hS⟩ := hrel
          have hlen := hS.out.c.len hIs.out
          rw [List.length_map] at hlen
          obtain ⟨_, a, c, _, _, rfl, _⟩ := hS.out.g.slices.opened
          by_cases hlt : j < ss.length
          · go_wp2_with fail
            have hS1 := Lib.hid (show ImpSt w.heap.size B Is w wr (.slice a ss.length c) ss f j 0 from hS.out)
            go_loopw [4, 36] (fun v s36 wr => ∃ (i : Nat) (ss : List SlI) (f : Int → Option Value), s36 = .int .i64 i ∧ i ≤ j ∧ j < ss.length ∧ Hid (ImpSt w.heap.size B Is w wr v ss f j i)) (fun _ s36 _ => j - (intOf s36).toNat)
            case atStart => exact ⟨0, ss, f, rfl, Nat.zero_le _, hlt, hS1⟩
            case round =>
              clear hS1 hS hlt hlen hj
              obtain ⟨i, ss, f, rfl, hi9, hlt, hS⟩ := hrel
              have hlen := hS.out.c.len hIs.out
              rw [List.length_map] at hlen
              obtain ⟨_, a9, c9, _, _, rfl, hcap, _⟩ := hS.out.g.slices.opened
              by_cases hij : i < j
              · obtain ⟨g, rfl⟩ := own_addr hS.out.g.own (by omega)
                obtain ⟨sc, hsc⟩ : ∃ s, ss[i]? = some s := ⟨_, List.getElem?_eq_getElem (by omega)⟩
                obtain ⟨sd, hsd⟩ : ∃ s, ss[j]? = some s := ⟨_, List.getElem?_eq_getElem hlt⟩
                have hci : wr.cell? ⟨g, i, none⟩ = some (slVI sc) := by rw [hS.out.g.own.cellAt i (by omega), List.getElem?_map, hsc]; rfl
                have hcj : wr.cell? ⟨g, j, none⟩ = some (slVI sd) := by rw [hS.out.g.own.cellAt j (by omega), List.getElem?_map, hsd]; rfl
                have ccc := hS.out.c.clauses hIs.out (x := sc.2) (List.mem_map.2 ⟨sc, List.mem_of_getElem? hsc, rfl⟩)
                have ccd := hS.out.c.clauses hIs.out (x := sd.2) (List.mem_map.2 ⟨sd, List.mem_of_getElem? hsd, rfl⟩)
                have hic := ints_of_own (hS.out.g.row sc (List.mem_of_getElem? hsc))
                have hid := ints_of_own (hS.out.g.row sd (List.mem_of_getElem? hsd))
                have hr1 := Lib.hid (fun W (hW : Below wr.heap.size wr W) => (resolvents_any (slVI sc) (slVI sd) sc.2 sd.2 W (hic.below hW (Nat.le_refl _)) (hid.below hW (Nat.le_refl _)) ccc ccd).mono
                  (R' := fun e w' => ∃ a1 n1 c1 rs1, e = .returned (.slice a1 n1 c1) ∧ Hid (ResAt W.heap.size w' a1 n1 c1 rs1 (rvL sc.2 sd.2 6)) ∧ Below W.heap.size W w') (fun e w' ⟨v, he, ho, hb⟩ => by
                    obtain ⟨a1, n1, c1, rs1, rfl, hra⟩ := resAt_of_own ho
                    exact ⟨a1, n1, c1, rs1, he, hra, hb⟩))
                have hr2 := Lib.hid (fun W (hW : Below wr.heap.size wr W) => (resolvents_any (slVI sd) (slVI sc) sd.2 sc.2 W (hid.below hW (Nat.le_refl _)) (hic.below hW (Nat.le_refl _)) ccd ccc).mono
                  (R' := fun e w' => ∃ a1 n1 c1 rs1, e = .returned (.slice a1 n1 c1) ∧ Hid (ResAt W.heap.size w' a1 n1 c1 rs1 (rvL sd.2 sc.2 6)) ∧ Below W.heap.size W w') (fun e w' ⟨v, he, ho, hb⟩ => by
                    obtain ⟨a1, n1, c1, rs1, rfl, hra⟩ := resAt_of_own ho
                    exact ⟨a1, n1, c1, rs1, he, hra, hb⟩))
                have hsc := Lib.hid hsc
                have hsd := Lib.hid hsd
                have hl1 := Lib.hid (rvL_one ccc ccd 6)
                have hl2 := Lib.hid (rvL_one ccd ccc 6)
                obtain ⟨⟨ca, cn, cc⟩, cx⟩ := sc
                obtain ⟨⟨da, dn, dc⟩, dx⟩ := sd
                unfold slVI at hci hcj hr1 hr2
                dsimp only at hci hcj hr1 hr2 hl1 hl2
                have hb0 := Below.refl wr.heap.size wr
                have q1 : i < ss.length := by omega
                clear hic hid ccc ccd
                go_wp2_with fail
                go_region_held3 (fun W => Below wr.heap.size wr W ∧ W.cell? ⟨g, i, none⟩ = some (.slice ca cn cc) ∧ W.cell? ⟨g, j, none⟩ = some (.slice da dn dc)) (first | (refine ⟨?_, ?_, ?_⟩ <;> (first | assumption | (exact Below.drew (by assumption)))) | (obtain ⟨hs1, hs2, hs3⟩ := ‹Below _ _ _ ∧ _ ∧ _›; exact ⟨keep_step (by first | assumption | exact (Below.refl _ _).alloc (Nat.le_refl _) _) hs1, keep_cell (by first | assumption | exact (Below.refl _ _).alloc (Nat.le_refl _) _) hs2, keep_cell (by first | assumption | exact (Below.refl _ _).alloc (Nat.le_refl _) _) hs3⟩)) (first | (go_at_call 21; (with_reducible refine (hr1.out _ (And.left ‹Below wr.heap.size wr _ ∧ _ ∧ _›)).mono ?_); rintro e w' ⟨a1, n1, c1, rs1, rfl, f1, hb'⟩) | (go_at_call 21; (with_reducible refine (hr2.out _ (And.left ‹Below wr.heap.size wr _ ∧ _ ∧ _›)).mono ?_); rintro e w' ⟨a2, n2, c2, rs2, rfl, f2, hb'⟩) | (go_at_call 20; refine (concatRes_any _ _ _ _ _ _ _ _ _ _ _ _ _ (f1.out.below (by first | assumption | exact keep_step (by assumption) (Below.drew (Below.refl _ _)))) f2.out hl1.out hl2.out).mono ?_; rintro e w' ⟨a3, n3, c3', rfl, f3, hb'⟩))
                all_goals
                  obtain ⟨hs1, _⟩ := ‹Below wr.heap.size wr _ ∧ _ ∧ _›
                  have hL0 := Lib.hid (hS.out.loop f1.out (by assumption) f2.out (by assumption) f3.out.2 (by assumption))
                  have hn3 := f3.out.1
                  have hsp := Lib.hid (show ∀ rs : List SlI, rs.map Prod.snd = rvL cx dx 6 ++ rvL dx cx 6 → (rs.map Prod.snd) = rvL (((ca, cn, cc), cx) : SlI).2 (((da, dn, dc), dx) : SlI).2 6 ++ rvL (((da, dn, dc), dx) : SlI).2 (((ca, cn, cc), cx) : SlI).2 6 from fun rs h => h)
                  have hrl : (rs1 ++ rs2).length ≤ 2 := by
                    have e1 := congrArg List.length hL0.out.2
                    have e2 := hl1.out
                    have e3 := hl2.out
                    simp only [List.length_map, List.length_append] at e1
                    rw [List.length_append]
                    omega
                  clear hs1 f1 f2 f3 hr1 hr2 hci hcj hb0 hl1 hl2
                  generalize rs1 ++ rs2 = rs at *
                  subst hn3
                  have hrs := Lib.hid hL0.out.2
                  replace hL0 := Lib.hid hL0.out.1
                  go_wp2_with fail
                  go_loopw [4, 60] (fun v s60 wr => ∃ (t : Nat) (ss' : List SlI) (f : Int → Option Value), s60 = .int .i64 t ∧ t ≤ rs.length ∧ j < ss'.length ∧ Hid (LoopR w.heap.size B Is w wr v ss ss' rs t f j i a3 c3')) (fun _ s60 _ => rs.length - (intOf s60).toNat)
                  case atStart => exact ⟨0, ss, f, rfl, Nat.zero_le _, hlt, hL0⟩
                  case round =>
                    clear hL0 hS
                    obtain ⟨t, ss', f, rfl, ht, hjl, hL⟩ := hrel
                    have hlen' := hL.out.c.len hIs.out
                    rw [List.length_map] at hlen'
                    obtain ⟨_, a8, c8, _, _, rfl, hcap8, _⟩ := hL.out.p.grow.slices.opened
                    by_cases hlt4 : t < rs.length
                    · obtain ⟨_, a7, c7, b7, o7, e7, _, h7, hcell⟩ := hL.out.r.opened
                      injection e7 with e71 e72 e73
                      subst e71
                      clear e72 e73
                      have ha7 : a3 = some ⟨b7, o7, none⟩ := by
                        rcases h7 with h | ⟨_, h⟩
                        · exact absurd h (by omega)
                        · exact h
                      subst ha7
                      clear h7
                      obtain ⟨ra, rn, rc, rx, hr, hcr⟩ := hcell.out t hlt4
                      obtain ⟨hrc, hrclo⟩ := hL.out.clause hr hrs.out hsc.out hsd.out
                      have hrm : ((ra, rn, rc), rx) ∈ ss' ++ rs.drop t := List.mem_append_right _ (by
                        rw [List.drop_eq_getElem_cons hlt4]
                        have := (List.getElem?_eq_some_iff.1 hr).2
                        rw [this]
                        exact List.mem_cons_self)
                      have hkey := Lib.hid (hkeyW.out ((ra, rn, rc), rx) hrc wr (ints_of_own (hL.out.p.row _ hrm)))
                      have hlook := Lib.hid (hL.out.s.look hrc)
                      have hwf := key_wf hrc
                      have hr := Lib.hid hr
                      have hrc := Lib.hid hrc
                      have hrclo := Lib.hid hrclo
                      unfold slVI at hkey
                      dsimp only at hkey hlook hwf hrc hrclo
                      cases hd : decide (rx ∈ ss'.map Prod.snd)
                      · rw [hd] at hlook
                        have hadd := Lib.hid (fun w5 w7 v7 o h1 h2 h3 h4 h5 => hL.out.add (w5 := w5) (w7 := w7) (v7 := v7) (o := o) hr.out (by simpa using hd) hrclo.out hrc.out hjl h1 h2 hk3 h3 h4 h5)
                        have hkm : ss'.length < maxLen := by unfold maxLen; omega
                        have hkm2 : ss'.length + 1 ≤ maxLen := by unfold maxLen; omega
                        have hkm3 : (ss'.length + 1) * 24 ≤ 140737488355328 := by omega
                        have hlen9 : (ss' ++ [((ra, rn, rc), rx)]).length = ss'.length + 1 := by simp
                        have hlen9 := Lib.hid hlen9
                        dsimp only at hadd
                        clear hd hcell hrm
                        generalize ((orBits rx : Nat) : Int) = key at *
                        go_upto_region 21 with (first | (go_at_call 19; refine hkey.out.mono ?_; rintro e w' ⟨rfl, rfl⟩) | (at_lookup; refine wpList_lookup_mapV rfl _ _ 36 rfl 2 4 Try.underlying2 Try.underlying36 (zero_bool _) B ss'.length f rfl hL.out.m key rfl hwf ?_; rw [hlook.out]) | (at_mapUpdate; refine wpList_update_mapV rfl _ _ _ 36 rfl 2 4 Try.underlying2 Try.underlying36 B ss'.length f rfl hL.out.m hkm key _ rfl rfl hwf ?_; intro w5 hm5 hg5))
                        have hown5 := Lib.hid ((hL.out.p.mapped hL.out.m hg5).own)
                        have hnew := Lib.hid (cell_one_new w5 (.slice ra rn rc) 30)
                        have hownA := Lib.hid (own_below hown5.out ((Below.refl w5.heap.size w5).alloc (Nat.le_refl _) (.cells #[.slice ra rn rc] 30)) (Nat.le_refl _))
                        have hks5 : w.heap.size ≤ (w5.alloc (.cells #[.slice ra rn rc] 30)).heap.size := by
                          have h1 := hL.out.p.ks
                          have h2 := hg5.size
                          simp
                          omega
                        have hm5 := Lib.hid hm5
                        have hg5 := Lib.hid hg5
                        clear hL
                        go_wp2_with (at_builtin; refine wpList_append_own_at _ rfl _ _ 22 rfl w.heap.size 30 i0 (.slice none 0 0) 1 24 Try.underlying22 hi hz0 hz1 hz2 rfl (by decide) _ ss'.length (ss'.map slVI) rfl hownA.out ⟨w5.heap.size, 0, none⟩ 1 1 [.slice ra rn rc] rfl rfl hnew.out (by simp [Value.oneCell']) hkm2 hkm3 hks5 ?_; intro v7 w7 hown7 hgrow7 _ hblk7)
                        have hfin := Lib.hid (hadd.out w5 w7 v7 _ hm5.out hg5.out hown7 hgrow7 hblk7)
                        go_roundw
                        case rel => exact ⟨t + 1, ss' ++ [((ra, rn, rc), rx)], _, by go_num, by omega, by rw [hlen9.out]; omega, hfin⟩
                        case measure => simp [intOf]; omega
                      · rw [hd] at hlook
                        have hfin := Lib.hid (hL.out.skip hr.out (by simpa using hd))
                        clear hd hcell hrm
                        generalize ((orBits rx : Nat) : Int) = key at *
                        go_wp2_with (first | (go_at_call 19; refine hkey.out.mono ?_; rintro e w' ⟨rfl, rfl⟩) | (at_lookup; refine wpList_lookup_mapV rfl _ _ 36 rfl 2 4 Try.underlying2 Try.underlying36 (zero_bool _) B ss'.length f rfl hL.out.m key rfl hwf ?_; rw [hlook.out]))
                        go_roundw
                        case rel => exact ⟨t + 1, ss', f, by go_num, by omega, hjl, hfin⟩
                        case measure => simp [intOf]; omega
                    · have hfin := Lib.hid (hL.out.done (by omega) hrs.out hsc.out hsd.out)
                      clear hL
                      go_wp2_with fail
                      go_roundw
                      case rel => exact ⟨i + 1, ss', f, by go_num, by omega, hjl, hfin⟩
                      case measure => simp [intOf]; omega
              · obtain rfl : i = j := by omega
                have hfin := Lib.hid (show ImpSt w.heap.size B Is w wr (.slice a9 ss.length c9) ss f (i + 1) 0 from ⟨hS.out.g, hS.out.c.next, hS.out.m, hS.out.s, hS.out.b⟩)
                clear hS
                go_wp2_with fail
                go_roundw
                case rel => exact ⟨i + 1, ss, f, by go_num, by omega, hfin⟩
                case measure => simp [intOf]; omega
          · have hmem := Lib.hid (hS.out.c.done hIs.out (by rw [List.length_map]; omega))
            have hso := Lib.hid (sortedLists_any w.heap.size _ ss wr hS.out.g (by omega))
            have hbb := Lib.hid hS.out.b
            clear hS
            go_wp2_with fail
            refine hso.out.mono ?_
            rintro e w9 ⟨v9, ss9, rfl, g9, h9, b9⟩
            have hfin := Lib.hid (show OwnII w.heap.size w9.heap.size w9 v9 R from by
              have h1 := g9.ownII
              have h2 : ss9.map Prod.snd = R := isClo_one ⟨h9.out.1, fun x => (h9.out.2 x).trans (hmem.out x)⟩ hclo.out
              rw [h2] at h1
              exact h1)
            go_wp2_with fail
            go_ret2
            exact ⟨_, rfl, hfin.out, hbb.out.trans b9⟩
end Go.Proofs.Ytobbhflajkhcdaa
