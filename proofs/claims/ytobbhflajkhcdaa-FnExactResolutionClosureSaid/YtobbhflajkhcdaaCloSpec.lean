/- spec.ResolutionClosure. -/
import Derived.Test.YtobbhflajkhcdaaGrown
import Derived.Test.YtobbhflajkhcdaaFbAll
namespace Go.Proofs.Ytobbhflajkhcdaa
open Go.RowKit
set_option linter.unusedVariables false
set_option linter.unusedSimpArgs false

theorem zip_slI : ∀ (ss : List StV) (L : List (List Int)), ss.length = L.length → (∀ (i : Nat) (s : StV) (c : List Int), ss[i]? = some s → L[i]? = some c → ∃ a cp, s.1 = .slice a c.length cp) → ∃ zs : List SlI, zs.map slVI = ss.map (·.1) ∧ zs.map Prod.snd = L
  | [], [], _, _ => ⟨[], rfl, rfl⟩
  | [], _ :: _, h, _ => by simp at h
  | _ :: _, [], h, _ => by simp at h
  | s :: ss, c :: L, h, hs => by
    obtain ⟨zs, h1, h2⟩ := zip_slI ss L (by simpa using h) (fun i t d ht hd => hs (i + 1) t d (by simpa using ht) (by simpa using hd))
    obtain ⟨a, cp, e⟩ := hs 0 s c rfl rfl
    exact ⟨((a, c.length, cp), c) :: zs, by simp [h1, slVI, e], by simp [h2]⟩
set_option maxHeartbeats 8000000 in
set_option maxRecDepth 100000 in
theorem specClosure_any (v : Value) (Is R : List (List Int)) (w : World) (h : Fi w v Is) (hn : Is.length ≤ 1048576) (hl : ∀ I ∈ Is, I.length ≤ 1048576) (hR : isCloR Is R) :
    Calls Try.prog 5 #[v] w fun e w' => ∃ v', e = .returned (.tuple #[v', .int .i64 (cloCode Is)]) ∧ Fi w' v' R ∧ Below w.heap.size w w' := by
  have hcl := Lib.hid (l04All_any v Is w h)
  cases hall : Is.all clauseB
  · have hcode : cloCode Is = 1 := by unfold cloCode; rw [hall]; rfl
    obtain rfl : R = [] := by unfold isCloR at hR; rw [hall] at hR; simpa using hR
    rw [hcode]
    rw [hall] at hcl
    clear h hcode hall hR
    have hnil := Lib.hid (fun (W : World) => (OwnII.nil W w.heap.size).fs)
    go_enter Try.func5, Try.ntmps5
    go_wp2_with fail
    refine hcl.out.mono ?_
    rintro e w1 ⟨rfl, b1⟩
    go_wp2_with fail
    go_ret2
    exact ⟨_, rfl, hnil.out _, b1⟩
  · have hcode : cloCode Is = 0 := by unfold cloCode; rw [hall]; rfl
    have hclo := Lib.hid (show isClo Is R by unfold isCloR at hR; rw [hall] at hR; exact hR)
    have hIs := Lib.hid (all_memC hall)
    rw [hcode]
    rw [hall] at hcl
    clear hcode hall hR
    have hgr := Lib.hid (fun W (hb : Below w.heap.size w W) => l04Grown_any v Is W (h.below hb (Nat.le_refl _)) hn hIs.out)
    obtain ⟨i0, hi, hz0, hz1, hz2⟩ := info_parts info_ints
    clear h
    go_enter Try.func5, Try.ntmps5
    go_wp2_with fail
    refine hcl.out.mono ?_
    rintro e w1 ⟨rfl, b1⟩
    have hb2 := Lib.hid (b1.alloc b1.size (.cells #[] 30))
    have hl0 := Lib.hid (World.ownsRow_lit (e := 30) (base := w.heap.size) (size := 1) w1 #[] 0 b1.size (by simp [maxLen]) rfl)
    have hk1 := b1.size
    clear b1
    go_wp2_with fail
    refine (hgr.out _ hb2.out).mono ?_
    rintro e w3 ⟨vs, ss, L, rfl, hL, b3⟩
    have hB3 := Lib.hid (keep_step b3 hb2.out)
    have hl3 := Lib.hid (own_below hl0.out b3 (Nat.le_refl _))
    obtain ⟨hmem, hlen, hsl, hown, hcells⟩ := hL.out
    rw [← hsl] at hlen
    have hsl := Lib.hid hsl
    have hmem := Lib.hid hmem
    have hcells := Lib.hid hcells
    obtain ⟨a, c, hv6⟩ : ∃ a c, vs = .slice a ss.length c := by
      rcases hown.2 with ⟨e, h0⟩ | ⟨g, cap, cur, e, _⟩
      · exact ⟨none, 0, by rw [e, h0]⟩
      · exact ⟨_, _, e⟩
    subst hv6
    have hownh := Lib.hid hown
    have hsz3 : w1.heap.size < w3.heap.size := by have := b3.size; simp at this; omega
    have hrng := Lib.hid (show (∀ k, (Value.slice a ss.length c).ownBlock = some k → w1.heap.size < k ∧ k < w3.heap.size) ∧ ∀ s ∈ ss, ∀ k, s.1.ownBlock = some k → w1.heap.size < k ∧ k < w3.heap.size from by
      refine ⟨fun k hk => ?_, fun s hs k hk => ?_⟩
      · have h1 := hownh.out.lt k hk
        simp at h1
        omega
      · obtain ⟨i9, hi9⟩ := List.getElem?_of_mem hs
        have h2 := (hcells.out i9 s _ hi9 (List.getElem?_eq_getElem (by rw [← hsl.out]; exact (List.getElem?_eq_some_iff.1 hi9).1))).2 k hk
        simp at h2
        omega)
    clear hL b3 hown hl0 hb2
    go_wp2_with fail
    go_loopw [4, 6] (fun vo s6 wr => ∃ k : Nat, k ≤ ss.length ∧ s6 = .int .i64 k ∧ Hid (wr.ownsRow w.heap.size 30 1 vo k ((ss.take k).map (·.1))) ∧ Hid (∀ q, vo.ownBlock = some q → q = w1.heap.size ∨ w3.heap.size ≤ q) ∧ Hid (wr.ownsRow w.heap.size 34 4 (.slice a ss.length c) ss.length (cellsSt ss)) ∧ Hid (∀ (i : Nat) (s : StV) (c : List Int), ss[i]? = some s → L[i]? = some c → Ints wr s.1 c) ∧ Hid (w3.heap.size ≤ wr.heap.size) ∧ Below w.heap.size w wr) (fun _ s6 _ => ss.length - (intOf s6).toNat)
    case atStart => exact ⟨0, Nat.zero_le _, rfl, hl3, Lib.hid (fun q hq => .inl (by simpa [Value.ownBlock] using hq.symm)), Lib.hid (own_mono hownh.out (by simp; omega)), Lib.hid (fun i s c h1 h2 => (hcells.out i s c h1 h2).1), Lib.hid (Nat.le_refl _), hB3.out⟩
    case round =>
      clear hl3 hownh hcells hB3
      obtain ⟨k, hk, rfl, ho, hv, hr, hi9, hsz, hb⟩ := hrel
      by_cases hlt : k < ss.length
      · obtain ⟨g, rfl⟩ := own_addr hr.out (by omega)
        obtain ⟨s, hs⟩ : ∃ s, ss[k]? = some s := ⟨_, List.getElem?_eq_getElem hlt⟩
        obtain ⟨cl, hcl9⟩ : ∃ x, L[k]? = some x := ⟨_, List.getElem?_eq_getElem (by rw [← hsl.out]; exact hlt)⟩
        have hii := hi9.out k s cl hs hcl9
        obtain ⟨az, ps, hs1⟩ := hii.shape
        have hc0 : wr.cell? ⟨g, k * 4, none⟩ = some (.slice az cl.length ps) := by rw [hr.out.cellAt (k * 4) (by omega), ← hs1]; exact (cellsSt_get ss k _ hs).1
        have htake := Lib.hid (show (ss.take (k + 1)).map (·.1) = (ss.take k).map (·.1) ++ [.slice az cl.length ps] by rw [List.take_add_one, hs, ← hs1]; simp)
        clear hii hs1
        generalize cl.length = m at *
        have bA := Lib.hid ((Below.refl wr.heap.size wr).alloc (Nat.le_refl _) (.cells #[.slice az m ps] 30))
        have hoA := Lib.hid (own_below ho.out bA.out (Nat.le_refl _))
        have hnew := Lib.hid (cell_one_new wr (.slice az m ps) 30)
        have hksA : w.heap.size ≤ (wr.alloc (.cells #[.slice az m ps] 30)).heap.size := by have := hb.size; simp; omega
        have hmx1 : k + 1 ≤ maxLen := by unfold maxLen; omega
        have hmx2 : (k + 1) * 24 ≤ 140737488355328 := by omega
        obtain ⟨vo, hvo⟩ : ∃ vo, vo = u4 := ⟨_, rfl⟩
        subst hvo
        go_wp2_with (at_builtin; refine wpList_append_own_at _ rfl _ _ 22 rfl w.heap.size 30 i0 (.slice none 0 0) 1 24 Try.underlying22 hi hz0 hz1 hz2 rfl (by decide) vo k ((ss.take k).map (·.1)) rfl hoA.out ⟨wr.heap.size, 0, none⟩ 1 1 [.slice az m ps] rfl rfl hnew.out (by simp [Value.oneCell']) hmx1 hmx2 hksA ?_; intro v7 w7 hown7 hgrow7 _ hblk7)
        rw [← htake.out] at hown7
        have h1 := Lib.hid hown7
        have hvo := hv.out
        have h2 := Lib.hid (show ∀ q, v7.ownBlock = some q → q = w1.heap.size ∨ w3.heap.size ≤ q from fun q hq => by
          rcases hblk7 with e | e
          · rw [e] at hq; exact hvo q hq
          · rw [e] at hq
            have h5 := Option.some.inj hq
            have h6 := hsz.out
            simp at h5
            omega)
        have h3 := Lib.hid ((own_below hr.out bA.out (Nat.le_refl _)).kept hgrow7 (.inr (fun e => by
          have h5 := hrng.out.1 g rfl
          rcases hvo g e.symm with h6 | h6 <;> omega)))
        have h4 := Lib.hid (show ∀ (i : Nat) (s : StV) (c : List Int), ss[i]? = some s → L[i]? = some c → Ints w7 s.1 c from fun i s c hs hc => ints_grown ((hi9.out i s c hs hc).below bA.out (Nat.le_refl _)) hgrow7 (fun q hq hq2 => by
          have h5 := hrng.out.2 s (List.mem_of_getElem? hs) q hq2
          rcases hvo q hq with h6 | h6 <;> omega))
        have h5 := Lib.hid (show w3.heap.size ≤ w7.heap.size from by have h6 := hsz.out; have h7 := hgrow7.size; simp at h7; omega)
        have h6 := Lib.hid ((hb.alloc hb.size (.cells #[.slice az m ps] 30)).grown hgrow7 hksA (fun q hq => (ho.out.lt q hq).1))
        clear hown7 hgrow7 hblk7
        go_roundw
        case rel => exact ⟨k + 1, by omega, by go_num, h1, h2, h3, h4, h5, h6.out⟩
        case measure => simp [intOf]; omega
      · obtain rfl : k = ss.length := by omega
        obtain ⟨vo, hvo⟩ : ∃ vo, vo = u4 := ⟨_, rfl⟩
        subst hvo
        have hF := Lib.hid (show Fi wr vo L from by
          have h1 := ho.out
          rw [List.take_length] at h1
          obtain ⟨zs, hz1, hz2⟩ := zip_slI ss L hsl.out (fun i s c h1 h2 => by
            obtain ⟨a5, c5, h5⟩ := (hi9.out i s c h1 h2).shape
            exact ⟨a5, c5, h5⟩)
          have hzl : zs.length = ss.length := by have := congrArg List.length hz1; simpa using this
          rw [← hz1, ← hzl] at h1
          refine ⟨zs, reads_of_own h1, fun s hs => ?_, hz2⟩
          obtain ⟨i, hi⟩ := List.getElem?_of_mem hs
          have hil : i < ss.length := by rw [← hzl]; exact (List.getElem?_eq_some_iff.1 hi).1
          have e1 : (ss.map (·.1))[i]? = some (slVI s) := by rw [← hz1, List.getElem?_map, hi]; rfl
          have e2 : L[i]? = some s.2 := by rw [← hz2, List.getElem?_map, hi]; rfl
          rw [List.getElem?_map, Option.map_eq_some_iff] at e1
          obtain ⟨t, ht, he⟩ := e1
          rw [← he]
          exact hi9.out i t s.2 ht e2)
        have hcls := fun r (hr : r ∈ L) => ((hmem.out r).1 hr).clause hIs.out
        have hso := Lib.hid (l04Sorted_any vo L wr hF.out (by rw [← hsl.out]; omega) (fun r hr => by have := clause_len (hcls r hr); omega))
        have hU := Lib.hid (show allU ltI L = R from allU_clo hclo.out hmem.out)
        rw [hU.out] at hso
        clear hcls ho hv hr hi9 hsz
        go_wp2_with fail
        refine hso.out.mono ?_
        rintro e w9 ⟨v9, rfl, f9, b9⟩
        have hfin := Lib.hid f9.fi
        go_wp2_with fail
        go_ret2
        exact ⟨_, rfl, hfin.out, keep_step b9 hb⟩
end Go.Proofs.Ytobbhflajkhcdaa
