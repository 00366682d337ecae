/- JoinAll, of both: the reference's part and the whole. -/
import Derived.Test.YtadinbjhpbomkaaJoinAll
namespace Go.Proofs.Ytadinbjhpbomkaa
open Go.RowKit

theorem fs_slices {w : World} {v : Value} {Is : List (List Nd)} (h : Fs w v Is) : ∃ ss, Slices w v ss ∧ (∀ s ∈ ss, Nodes w (slV s) s.2) ∧ ss.map Prod.snd = Is := h
theorem all_snd (ss : List Sl) : (ss.all fun s => formB s.2) = (ss.map Prod.snd).all formB := by rw [List.all_map]; rfl

theorem limited_over (a : Option Addr) (n c : Nat) (w : World) (hn : 40 < n) (hm : n ≤ 1000000000) :
    Calls Try.prog 56 #[.slice a n c] w fun e w' => e = .returned (.tuple #[.slice none 0 0, .int .i64 3]) ∧ w = w' := by
  go_enter Try.func56, Try.ntmps56
  go_wp2_with fail
  go_ret2
  exact ⟨rfl, rfl⟩

set_option maxHeartbeats 2000000 in
theorem implJoinAll_any (k : Int) (v : Value) (Is : List (List Nd)) (w : World) (h : Fs w v Is) (hsm : Is.length ≤ 1048576) :
    Calls Try.prog 35 #[.int .i64 k, v] w fun e w' => ∃ v', e = .returned (.tuple #[v', .int .i64 (jaCode k Is)]) ∧ w'.ownsRow w.heap.size 59 2 v' (jaR k Is).length (cellsN (jaR k Is)) ∧ Below w.heap.size w w' := by
  obtain ⟨ss, h1, h2, h3⟩ := h
  have hF : Fs w v Is := ⟨ss, h1, h2, h3⟩
  have hia := Lib.hid (areFormulas_any v ss w h1 h2)
  have hall := Lib.hid (all_snd ss)
  have h3h := Lib.hid h3
  clear h1 h2 h3
  rcases ja_cases k Is with ⟨g1, g2, g3⟩ | ⟨g1, g2, g3, g4⟩ | ⟨g1, g2, hl, g3, g4⟩ | ⟨g1, g2, hl, g3, g4⟩
  · replace g1 := Lib.hid g1
    replace g2 := Lib.hid g2
    replace g3 := Lib.hid g3
    clear hF
    go_enter Try.func35, Try.ntmps35
    go_wp2_with fail
    refine hia.out.mono ?_
    rintro e w1 ⟨rfl, b1⟩
    rw [hall.out, h3h.out, g1.out]
    go_wp2_with fail
    go_ret2
    exact ⟨_, by rw [g2.out]; rfl, by rw [g3.out]; exact World.ownsRow_nil _ _ _ _, b1⟩
  · replace g1 := Lib.hid g1
    replace g3 := Lib.hid g3
    replace g4 := Lib.hid g4
    clear hF
    have hk2 : (k != 2) = true := by rw [bne_iff_ne]; omega
    have hk3 : (k != 3) = true := by rw [bne_iff_ne]; omega
    go_enter Try.func35, Try.ntmps35
    go_wp2_with fail
    refine hia.out.mono ?_
    rintro e w1 ⟨rfl, b1⟩
    rw [hall.out, h3h.out, g1.out]
    go_wp2_with fail
    go_ret2
    exact ⟨_, by rw [g3.out]; rfl, by rw [g4.out]; exact World.ownsRow_nil _ _ _ _, b1⟩
  all_goals
    have hj := Lib.hid (fun w1 (hb : Below w.heap.size w w1) => joinAll_any k v Is w1 (hF.below hb (Nat.le_refl _)) g1 hsm)
    have hbig : (jaL k Is).length ≤ 100000000 := by
      rcases Nat.eq_zero_or_pos Is.length with h0 | h0
      · unfold jaL
        rw [if_pos h0]
        split
        · show truthL.length ≤ _
          simp [truthL]
        · simp
      · rw [jaL_len k h0]
        have := forms_tot g1 hsm
        omega
    replace g1 := Lib.hid g1
    replace g3 := Lib.hid g3
    replace g4 := Lib.hid g4
    clear hF
    rcases g2 with rfl | rfl
    all_goals
      generalize jaL _ Is = R at *
      go_enter Try.func35, Try.ntmps35
      go_wp2_with fail
      refine hia.out.mono ?_
      rintro e w1 ⟨rfl, b1⟩
      rw [hall.out, h3h.out, g1.out]
      go_wp2_with fail
      refine (hj.out _ b1).mono ?_
      rintro e w3 ⟨v', rfl, ho, hb3⟩
      have B3 := keep_step hb3 b1
      obtain ⟨a1, c1, hsh⟩ := (nodes_of_own ho).shape
      subst hsh
      have ho := Lib.hid (own_mono ho b1.size)
      generalize hNR : R.length = N at *
      have hNR := Lib.hid hNR
      go_wp2_with fail
      first
        | refine (limited_over _ _ _ _ hl (by omega)).mono ?_
        | refine (limited_ok _ _ _ _ hl).mono ?_
      rintro e w4 ⟨rfl, rfl⟩
      go_wp2_with fail
      go_ret2
      first
        | exact ⟨_, by rw [g3.out]; rfl, by rw [g4.out]; exact World.ownsRow_nil _ _ _ _, B3⟩
        | exact ⟨_, by rw [g3.out]; rfl, by rw [g4.out, hNR.out]; exact ho.out, B3⟩

set_option maxHeartbeats 2000000 in
theorem l02All_any (k : Int) (v : Value) (Is : List (List Nd)) (w : World) (h : Fs w v Is) (hf : Is.all formB = true) (hl : (jaL k Is).length ≤ 40) (hsm : Is.length ≤ 1048576) :
    Calls Try.prog 74 #[.int .i64 k, v] w fun e w' => ∃ v', e = .returned v' ∧ w'.ownsRow w.heap.size 59 2 v' (jaL k Is).length (cellsN (jaL k Is)) ∧ Below w.heap.size w w' := by
  obtain ⟨a, c, b, o, rfl, hc, hm, ha, hcell⟩ := h.cells
  by_cases h0 : Is.length = 0
  · clear h ha hcell hl hf hsm
    by_cases hk : k = 2
    · have hj := Lib.hid (show jaL k Is = truthL by unfold jaL; rw [if_pos h0, if_pos hk])
      subst hk
      rw [h0]
      clear h0 hc hm
      go_enter Try.func74, Try.ntmps74
      go_wp2_with fail
      refine (l02True_row _).mono ?_
      rintro e w1 ⟨v1, rfl, ho, b1⟩
      have ho := Lib.hid ho
      go_wp2_with fail
      go_ret
      exact ⟨_, rfl, by rw [hj.out]; exact ho.out, b1⟩
    · have hj := Lib.hid (show jaL k Is = [(1, 0)] by unfold jaL; rw [if_pos h0, if_neg hk])
      rw [h0]
      clear h0 hc hm
      have hkf : (k == 2) = false := by rw [beq_eq_false_iff_ne]; exact hk
      go_enter Try.func74, Try.ntmps74
      go_wp2_with fail
      refine (l02False_own _).mono ?_
      rintro e w1 ⟨v1, rfl, ho, b1⟩
      have ho := Lib.hid ho
      go_wp2_with fail
      go_ret
      exact ⟨_, rfl, by rw [hj.out]; exact ho.out, b1⟩
  · have hp : 0 < Is.length := by omega
    obtain rfl := ha hp
    have hjl := jaL_len k hp
    have hjp := Lib.hid (show jaL k Is = jaPart k Is by unfold jaL; rw [if_neg h0])
    have htake := Lib.hid (fun (j : Nat) (hj : j ≤ Is.length) => show (jaPart k (Is.take j)).length ≤ 40 by
      rw [jaPart_len, List.length_take, Nat.min_eq_left hj]
      have := tot_take_le Is j
      omega)
    have hfl := Lib.hid (forms_len hf)
    have hpos := Lib.hid (fun (j : Nat) (hj : j ≤ Is.length) (hj0 : 0 < j) => show 0 < (jaPart k (Is.take j)).length by
      rw [jaPart_len, List.length_take, Nat.min_eq_left hj]
      obtain ⟨I, hI⟩ : ∃ I, Is[0]? = some I := ⟨_, List.getElem?_eq_getElem hp⟩
      have h1 := tot_succ hI
      have h2 := (forms_len hf I (List.mem_of_getElem? hI)).1
      have h3 := tot_take_le (Is.take j) 1
      rw [List.take_take, Nat.min_eq_left (by omega)] at h3
      simp only [Nat.zero_add] at h1
      omega)
    have hn0 : ((Is.length : Int) == 0) = false := by rw [beq_eq_false_iff_ne]; omega
    have hone0 := Lib.hid (fun (I : List Nd) (hI : Is[0]? = some I) => show jaPart k (Is.take 1) = I by
      unfold jaPart
      rw [List.length_take, Nat.min_eq_left (by omega), show (1 : Nat) = 0 + 1 from rfl, List.take_add_one, hI]
      simp)
    clear h ha hm hf hl hjl h0
    obtain ⟨v0, I0, hI0, hc0, hnI0⟩ := hcell.out 0 hp
    have hl0 := hfl.out I0 (List.mem_of_getElem? hI0)
    have ho0 := Lib.hid (hone0.out I0 hI0)
    rw [Nat.add_zero] at hc0
    obtain ⟨a1, c1, rfl⟩ := hnI0.shape
    have hnI0 := Lib.hid hnI0
    have hown0 := Lib.hid (l02Own_any _ I0 w hnI0.out hl0.1 (by omega))
    clear hI0 hone0
    generalize hm0 : I0.length = m0 at *
    go_enter Try.func74, Try.ntmps74
    go_wp2_with fail
    refine hown0.out.mono ?_
    rintro e w1 ⟨v1, rfl, ho1, b1⟩
    have ho1 := Lib.hid ho1
    have hm0 := Lib.hid hm0
    go_wp2_with fail
    go_loopw [5, 6] (fun z i wr => ∃ j : Nat, 1 ≤ j ∧ j ≤ Is.length ∧ i = .int .i64 j ∧ Hid (wr.ownsRow w.heap.size 59 2 z (jaPart k (Is.take j)).length (cellsN (jaPart k (Is.take j)))) ∧ Below w.heap.size w wr) (fun _ i _ => Is.length - (intOf i).toNat)
    case atStart => exact ⟨1, by omega, hp, rfl, by rw [ho0.out, hm0.out]; exact ho1, b1⟩
    case round =>
      clear ho1 b1 hown0
      obtain ⟨j, hj0, hj, rfl, ho, hb⟩ := hrel
      by_cases hlt : j < Is.length
      · obtain ⟨vI, I, hIk, hcI, hnI⟩ := hcell.out j hlt
        have hcI := (hb.cell (p := ⟨b, o + j, none⟩) (World.block_lt_of_cell? w _ hcI)).trans hcI
        have hlen := hfl.out I (List.mem_of_getElem? hIk)
        have hjs := Lib.hid (jaPart_succ k hIk hj0)
        have h40 := htake.out j hj
        have hp0 := hpos.out j hj hj0
        have hcall := Lib.hid (l02Pair_any k _ vI _ I wr (nodes_of_own ho.out) (hnI.below hb (Nat.le_refl _)) hp0 hlen.1 (by omega) (by omega))
        obtain ⟨a2, c2, rfl⟩ := hnI.shape
        clear hnI hIk
        generalize jaPart k (Is.take j) = D at *
        generalize hmI : I.length = m at *
        have hmI := Lib.hid hmI
        obtain ⟨a3, c3, hz⟩ := (nodes_of_own ho.out).shape
        subst hz
        have hbs := hb.size
        generalize hDl : D.length = d at *
        have hDl := Lib.hid hDl
        go_wp2_with fail
        refine hcall.out.mono ?_
        rintro e w2 ⟨v2, rfl, ho2, b2⟩
        have ho2 := Lib.hid (own_mono ho2 hbs)
        have B2 := keep_step b2 hb
        go_wp2_with fail
        go_roundw
        case rel =>
          refine ⟨j + 1, by omega, by omega, by go_num, ?_, B2⟩
          show World.ownsRow _ _ _ _ _ _ _
          rw [hjs.out]
          have e1 : (((k, (0 : Int)) :: D) ++ I).length = 1 + d + m := by rw [List.length_append, List.length_cons, hDl.out, hmI.out]; omega
          rw [e1]
          exact ho2.out
        case measure => simp [intOf]; omega
      · obtain rfl : j = Is.length := by omega
        rw [List.take_length, ← hjp.out] at ho
        go_wp2_with fail
        go_ret
        exact ⟨_, rfl, ho.out, hb⟩

theorem ja_bad {Is : List (List Nd)} {k : Nat} {I : List Nd} (h : Is[k]? = some I) (hf : formB I = false) : Is.all formB = false := all_bad h hf
theorem ja_good {Is : List (List Nd)} (h : ∀ (j : Nat) (I : List Nd), Is[j]? = some I → formB I = true) : Is.all formB = true := all_good fun i x _ hx => h i x hx

set_option maxHeartbeats 2000000 in
theorem specJoinAll_any (k : Int) (v : Value) (Is : List (List Nd)) (w : World) (h : Fs w v Is) (hsm : Is.length ≤ 1048576) :
    Calls Try.prog 34 #[.int .i64 k, v] w fun e w' => ∃ v', e = .returned (.tuple #[v', .int .i64 (jaCode k Is)]) ∧ w'.ownsRow w.heap.size 59 2 v' (jaR k Is).length (cellsN (jaR k Is)) ∧ Below w.heap.size w w' := by
  have hF := Lib.hid h
  obtain ⟨a, c, b, o, rfl, hc, hm, ha, hcell⟩ := h.cells
  have hah := Lib.hid ha
  have hbadR := Lib.hid (fun (g : Is.all formB = false) => show jaCode k Is = 1 ∧ jaR k Is = [] by
    rcases ja_cases k Is with ⟨_, g2, g3⟩ | ⟨g1, _⟩ | ⟨g1, _⟩ | ⟨g1, _⟩
    · exact ⟨g2, g3⟩
    all_goals rw [g] at g1; cases g1)
  have hall := Lib.hid (fun (g : Is.all formB = true) => l02All_any k _ Is w h g)
  have htk := Lib.hid (fun (g : Is.all formB = true) => forms_tot g hsm)
  have hjl := Lib.hid (fun (g : 0 < Is.length) => jaL_len k g)
  have hje := Lib.hid (fun (g : Is.length = 0) => show (jaL k Is).length ≤ 40 by
    unfold jaL
    rw [if_pos g]
    split
    · simp [truthL]
    · simp)
  have hcs := Lib.hid (ja_cases k Is)
  clear h ha hm
  go_enter Try.func34, Try.ntmps34
  go_wp2_with fail
  go_loop [6, 7] (fun s i => ∃ (j t : Nat), j ≤ Is.length ∧ i = .int .i64 j ∧ s = .int .i64 ((t + j : Nat) : Int) ∧ t ≤ j * 40 ∧ Hid (tot (Is.take j) = t ∧ ∀ (q : Nat) (I : List Nd), q < j → Is[q]? = some I → formB I = true)) (fun _ i => Is.length - (intOf i).toNat)
  case atStart => exact ⟨0, 0, Nat.zero_le _, rfl, rfl, Nat.zero_le _, rfl, fun q I hq => by omega⟩
  case round =>
    obtain ⟨j, t, hj, rfl, rfl, ht, hjt⟩ := hrel
    by_cases hlt : j < Is.length
    · obtain rfl := hah.out (by omega)
      obtain ⟨vI, I, hIk, hcI, hnI⟩ := hcell.out j hlt
      obtain ⟨a1, c1, rfl⟩ := hnI.shape
      have hnI := Lib.hid hnI
      have hIh := Lib.hid hIk
      have hts := Lib.hid (tot_succ hIk)
      clear hIk
      cases hf : formB I
      · have hfin := Lib.hid (hbadR.out (ja_bad hIh.out hf))
        have hfh := Lib.hid hf
        clear hf
        go_wp2_with fail
        refine (l02Is_any _ I _ hnI.out).mono ?_
        rintro e w' ⟨rfl, rfl⟩
        rw [hfh.out]
        go_wp2_with fail
        go_ret2
        exact ⟨_, by rw [hfin.out.1]; rfl, by rw [hfin.out.2]; exact World.ownsRow_nil _ _ _ _, Below.refl _ _⟩
      · have hlen := (form_len3 hf).2
        have hfh := Lib.hid hf
        clear hf
        go_wp2_with fail
        refine (l02Is_any _ I _ hnI.out).mono ?_
        rintro e w' ⟨rfl, rfl⟩
        rw [hfh.out]
        generalize hmI : I.length = m at *
        have hmI := Lib.hid hmI
        go_wp2_with fail
        go_round
        case rel =>
          refine ⟨j + 1, t + m, by omega, by go_num, by go_num, by omega, by rw [hts.out, hjt.out.1], fun q J hq hJ => ?_⟩
          rcases Nat.lt_or_ge q j with h2 | h2
          · exact hjt.out.2 q J h2 hJ
          · obtain rfl : q = j := by omega
            rw [hIh.out] at hJ
            obtain rfl : I = J := by simpa using hJ
            exact hfh.out
        case measure => simp [intOf]; omega
    · obtain rfl : j = Is.length := by omega
      have hg := ja_good fun q I hI => hjt.out.2 q I (List.getElem?_eq_some_iff.1 hI).1 hI
      have hT := hjt.out.1
      rw [List.take_length] at hT
      rcases hcs.out with ⟨g1, _⟩ | ⟨_, g2, g3, g4⟩ | ⟨_, g2, hl, g3, g4⟩ | ⟨_, g2, hl, g3, g4⟩
      · rw [hg] at g1; cases g1
      · replace g3 := Lib.hid g3
        replace g4 := Lib.hid g4
        clear hg hT
        have hk2 : (k != 2) = true := by rw [bne_iff_ne]; omega
        have hk3 : (k != 3) = true := by rw [bne_iff_ne]; omega
        go_wp2_with fail
        go_ret2
        exact ⟨_, by rw [g3.out]; rfl, by rw [g4.out]; exact World.ownsRow_nil _ _ _ _, Below.refl _ _⟩
      · have hbig : 41 < t + Is.length := by
          rcases Nat.eq_zero_or_pos Is.length with h0 | h0
          · have := hje.out h0; omega
          · have := hjl.out h0; omega
        replace g3 := Lib.hid g3
        replace g4 := Lib.hid g4
        clear hg hT hl
        rcases g2 with rfl | rfl
        all_goals
          go_wp2_with fail
          go_ret2
          exact ⟨_, by rw [g3.out]; rfl, by rw [g4.out]; exact World.ownsRow_nil _ _ _ _, Below.refl _ _⟩
      · have hsmall : t + Is.length ≤ 41 := by
          rcases Nat.eq_zero_or_pos Is.length with h0 | h0
          · have h1 : tot Is = 0 := by
              rw [List.eq_nil_of_length_eq_zero h0]; rfl
            omega
          · have := hjl.out h0; omega
        have hcall := Lib.hid (hall.out hg hl hsm)
        replace g3 := Lib.hid g3
        replace g4 := Lib.hid g4
        clear hg hT hl
        rcases g2 with rfl | rfl
        all_goals
          go_wp2_with fail
          refine hcall.out.mono ?_
          rintro e w2 ⟨v2, rfl, ho, b2⟩
          have ho := Lib.hid ho
          go_wp2_with fail
          go_ret2
          exact ⟨_, by rw [g3.out]; rfl, by rw [g4.out]; exact ho.out, b2⟩
end Go.Proofs.Ytadinbjhpbomkaa
