/- spec.l04Prime: the reference's prime implicants and prime implicates. -/
import Derived.Test.YtmhkcicjbgifnaaGreatMClauses
import Derived.Test.YtmhkcicjbgifnaaGreatMLessIM
import Derived.Test.YtmhkcicjbgifnaaGreatMSortSpec
import Derived.IntWalk

namespace Go.Proofs.YtmhkcicjbgifnaaGreat
open Go.RowKit Go.Deep
set_option linter.unusedVariables false
set_option linter.unusedSimpArgs false

/-- What is asked of a clause in a row. -/
def askB (imp : Bool) (p : Nat → Bool) (T : List Int) (r : Nat) : Bool := if imp then p r || !termB T r else !p r || someB T r
def goodB (imp : Bool) (p : Nat → Bool) (T : List Int) : Bool := (List.range 64).all (askB imp p T)
theorem goodB_imp (p : Nat → Bool) : goodB true p = impB p := by funext T; unfold goodB impB askB; simp
theorem goodB_cls (p : Nat → Bool) : goodB false p = clsB p := by funext T; unfold goodB clsB askB; simp
def inFoundB (fs : List SlI) (T : List Int) (j : Nat) : Bool := (fs.take j).any fun f => subB f.2 T
theorem inFound_succ {fs : List SlI} {T : List Int} {j : Nat} {f : SlI} (h : fs[j]? = some f) : inFoundB fs T (j + 1) = (inFoundB fs T j || subB f.2 T) := by
  unfold inFoundB
  rw [List.take_add_one, h, List.any_append]
  simp
theorem inFound_yes {fs : List SlI} {T : List Int} {j : Nat} (h : inFoundB fs T j = true) : ∃ F ∈ fs.map Prod.snd, ∀ x ∈ F, x ∈ T := by
  unfold inFoundB at h
  rw [List.any_eq_true] at h
  obtain ⟨f, hf, hs⟩ := h
  exact ⟨f.2, List.mem_map_of_mem (List.mem_of_mem_take hf), subB_iff.1 hs⟩
theorem inFound_no {fs : List SlI} {T : List Int} {j : Nat} (hj : fs.length ≤ j) (h : inFoundB fs T j = false) : ∀ F ∈ fs.map Prod.snd, ¬ ∀ x ∈ F, x ∈ T := by
  intro F hF hsub
  unfold inFoundB at h
  rw [List.take_of_length_le hj, List.any_eq_false] at h
  obtain ⟨f, hf, rfl⟩ := List.mem_map.1 hF
  exact h f hf (subB_iff.2 hsub)
def askedB (imp : Bool) (p : Nat → Bool) (T : List Int) (r : Nat) : Bool := (List.range r).all (askB imp p T)
theorem asked_succ (imp : Bool) (p : Nat → Bool) (T : List Int) (r : Nat) : askedB imp p T (r + 1) = (askedB imp p T r && askB imp p T r) := by
  unfold askedB
  rw [List.range_succ, List.all_append]
  simp
theorem asked_no {imp : Bool} {p : Nat → Bool} {T : List Int} {r : Nat} (hr : r ≤ 64) (h : askedB imp p T r = false) : goodB imp p T = false := by
  unfold askedB at h
  unfold goodB
  rw [List.all_eq_false] at h ⊢
  obtain ⟨x, hx, hn⟩ := h
  exact ⟨x, by rw [List.mem_range] at hx ⊢; omega, hn⟩
/-- Where the outer loop stands. -/
structure PrSt (imp : Bool) (p : Nat → Bool) (cs fs : List SlI) (K : Nat) (wr : World) (v : Value) (i : Nat) : Prop where
  own : wr.ownsRow K 48 1 v fs.length (fs.map slVI)
  mem : ∀ f ∈ fs, f ∈ cs
  st : FoundSt (goodB imp p) (cs.map Prod.snd) (fs.map Prod.snd) i
  len : fs.length ≤ i
theorem PrSt.below {imp : Bool} {p : Nat → Bool} {cs fs : List SlI} {K : Nat} {w w' : World} {v : Value} {i : Nat} (h : PrSt imp p cs fs K w v i) (hb : Below w.heap.size w w') : PrSt imp p cs fs K w' v i :=
  ⟨own_below h.own hb (Nat.le_refl _), h.mem, h.st, h.len⟩
theorem PrSt.no {imp : Bool} {p : Nat → Bool} {cs fs : List SlI} {K : Nat} {wr : World} {v : Value} {i : Nat} {s : SlI} (h : PrSt imp p cs fs K wr v i) (hC : AllCl (cs.map Prod.snd)) (hs : cs[i]? = some s) (hb : (∃ F ∈ fs.map Prod.snd, ∀ x ∈ F, x ∈ s.2) ∨ goodB imp p s.2 = false) : PrSt imp p cs fs K wr v (i + 1) :=
  ⟨h.own, h.mem, h.st.no hC (by rw [List.getElem?_map, hs]; rfl) hb, by have := h.len; omega⟩
theorem PrSt.yes {imp : Bool} {p : Nat → Bool} {cs fs : List SlI} {K : Nat} {wr w2 : World} {v v2 : Value} {i : Nat} {s : SlI} (h : PrSt imp p cs fs K wr v i) (hC : AllCl (cs.map Prod.snd)) (hs : cs[i]? = some s) (hf : ∀ F ∈ fs.map Prod.snd, ¬ ∀ x ∈ F, x ∈ s.2) (hg : goodB imp p s.2 = true)
    (ho : w2.ownsRow K 48 1 v2 (fs.length + 1) (fs.map slVI ++ [slVI s])) : PrSt imp p cs (fs ++ [s]) K w2 v2 (i + 1) := by
  refine ⟨by rw [List.length_append, List.map_append]; exact ho, fun f hf => ?_, by rw [List.map_append]; exact h.st.yes hC (by rw [List.getElem?_map, hs]; rfl) hf hg, by rw [List.length_append]; have := h.len; simp; omega⟩
  rcases List.mem_append.1 hf with hf | hf
  · exact h.mem f hf
  · obtain rfl : f = s := by simpa using hf
    exact List.mem_of_getElem? hs
theorem PrSt.sl {imp : Bool} {p : Nat → Bool} {cs fs : List SlI} {K : Nat} {wr : World} {v : Value} {i : Nat} (h : PrSt imp p cs fs K wr v i) : SlicesI wr v fs := reads_of_own h.own

set_option maxHeartbeats 8000000 in
set_option maxRecDepth 100000 in
theorem l04Prime_any (imp : Bool) (p : Nat → Bool) (R : List (List Int)) (hR : isAns (goodB imp p) R) (v : Value) (w : World) (h : Bools w v (tabL p 64)) :
    Calls Tryz.prog 17 #[v, .bool imp] w fun e w' => ∃ v', e = .returned v' ∧ FiA w.heap.size w' v' R ∧ Below w.heap.size w w' := by
  obtain ⟨i0, hi, hz0, hz1, hz2⟩ := info_parts info_ints
  obtain ⟨_, a2, cp, bb, oo, rfl, hcp, hz, htab⟩ := h.opened
  rw [tabL_length] at *
  obtain rfl : a2 = some ⟨bb, oo, none⟩ := by
    rcases hz with hz | hz
    · omega
    · exact hz.2
  have hget := Lib.hid (fun (i : Nat) (hi : i < 64) => tabL_get (p := p) hi)
  have htab2 := Lib.hid (show ∀ r, r < 64 → w.cell? ⟨bb, oo + r, none⟩ = some (.bool (p r)) from fun r hr => by
    obtain ⟨x, hx, hcx⟩ := htab.out r hr
    rw [hget.out r hr] at hx
    obtain rfl := Option.some.inj hx
    exact hcx)
  clear h hz htab hget
  have hcl := Lib.hid (l04Clauses_any w)
  have hR := Lib.hid hR
  go_enter Tryz.func17, Tryz.ntmps17
  go_wp2_with fail
  refine hcl.out.mono ?_
  rintro e w1 ⟨v1, cs, rfl, hG, hC, hcs, b1⟩
  have hpos : 0 < cs.length := by
    have := List.length_pos_of_mem (hC.out.all [] clause_nil)
    rwa [List.length_map] at this
  obtain ⟨g, cap, rfl, hcap, hmx, hcell⟩ := hG.pos hpos
  have hcell := Lib.hid hcell
  have hints := Lib.hid (show ∀ s ∈ cs, Ints w1 (slVI s) s.2 from fun s hs => ints_of_own (hG.row s hs))
  have hlo := Lib.hid (show ∀ s ∈ cs, ∀ k, (slVI s).ownBlock = some k → w.heap.size ≤ k ∧ k < w1.heap.size from fun s hs k hk => (hG.row s hs).lt k hk)
  have hcn := hcs.out
  have hs1 := b1.size
  have hf0 := Lib.hid (show PrSt imp p cs [] w1.heap.size (w1.alloc (.cells #[] 48)) (.slice (some ⟨w1.heap.size, 0, none⟩) 0 0) 0 from ⟨World.ownsRow_lit (e := 48) (base := w1.heap.size) (size := 1) w1 #[] 0 (Nat.le_refl _) (by simp [maxLen]) rfl, fun f hf => absurd hf List.not_mem_nil, FoundSt.start _ _, Nat.le_refl _⟩)
  have hb0 := Lib.hid ((Below.refl w1.heap.size w1).alloc (Nat.le_refl _) (.cells #[] 48))
  clear hG hmx
  have hcsl := Lib.hid (show cs.length = cs.length from rfl)
  go_wp2_with fail
  go_loopw [6, 7] (fun v i wr => ∃ (k : Nat) (fs : List SlI), k ≤ cs.length ∧ i = .int .i64 k ∧ Hid (PrSt imp p cs fs w1.heap.size wr v k) ∧ Below w1.heap.size w1 wr) (fun _ i _ => cs.length - (intOf i).toNat)
  case atStart => exact ⟨0, [], Nat.zero_le _, rfl, hf0, hb0.out⟩
  case round =>
    clear hf0 hb0
    obtain ⟨k, fs, hk, rfl, hS, hb⟩ := hrel
    by_cases hlt : k < cs.length
    · obtain ⟨s, hs⟩ : ∃ s, cs[k]? = some s := ⟨_, List.getElem?_eq_getElem hlt⟩
      obtain ⟨⟨⟨sa, sn, sc⟩, T⟩, hsd⟩ : ∃ s2 : SlI, s2 = s := ⟨_, rfl⟩
      rw [← hsd] at hs
      have hck := keep_cell hb (hcell.out k _ hs)
      have hTi := Lib.hid (hints.out _ (List.mem_of_getElem? hs))
      have hTc := Lib.hid (hC.out.cl T (List.mem_map.2 ⟨_, List.mem_of_getElem? hs, rfl⟩))
      have hTin := Lib.hid (show ∀ x ∈ T, 0 ≤ x ∧ x ≤ 11 from fun x hx => clause_in hTc.out hx)
      have hfl := hS.out.len
      obtain ⟨hfm, fa, fc, fb, fo, rfl, hfc, hfz, hfcell⟩ := hS.out.sl.opened
      have hfz := Lib.hid hfz
      have hs := Lib.hid hs
      unfold slVI at hck hTi
      dsimp only at hck hTi
      have hkl : (k : Int) < (cs.length : Int) := by omega
      have hkw : IntKind.i64.wrap ((k : Int) + 1) = ((k + 1 : Nat) : Int) := by rw [IntWalk.i64_in _ (by omega)]; omega
      have hwi := Lib.hid (show ∀ (j : Nat) (f : SlI) (W : World), fs[j]? = some f → Below w1.heap.size w1 W → Calls Tryz.prog 32 #[slVI f, .slice sa sn sc] W fun e w' => e = .returned (.bool (subB f.2 T)) ∧ W = w' from fun j f W hf hW => l04Within_any _ _ f.2 T W ((hints.out f (hS.out.mem f (List.mem_of_getElem? hf))).below hW (Nat.le_refl _)) (hTi.out.below hW (Nat.le_refl _)))
      clear hsd hfm
      obtain ⟨wo, hwo⟩ : ∃ wo, wo = wr := ⟨_, rfl⟩
      subst hwo
      go_wp2_with fail
      go_loopw [8, 9] (fun gv i wq => ∃ j : Nat, j ≤ fs.length ∧ i = .int .i64 j ∧ gv = .bool (!inFoundB fs T j) ∧ Below wo.heap.size wo wq) (fun _ i _ => fs.length - (intOf i).toNat)
      case atStart => exact ⟨0, Nat.zero_le _, rfl, rfl, Below.refl _ _⟩
      case round =>
        obtain ⟨j, hj, rfl, rfl, hbq⟩ := hrel
        have hb1q := Lib.hid (keep_step hbq hb)
        cases hin : inFoundB fs T j
        · by_cases hjl : j < fs.length
          · obtain ⟨ea, en, ec, E, hE, hcE⟩ := hfcell.out j hjl
            have hcE := keep_cell hbq hcE
            have hck := keep_cell hbq hck
            obtain rfl : fa = some ⟨fb, fo, none⟩ := by
              rcases hfz.out with h | ⟨_, h⟩
              · omega
              · exact h
            have hw2 := Lib.hid (show ∀ W, Below w1.heap.size w1 W → Calls Tryz.prog 32 #[.slice ea en ec, .slice sa sn sc] W fun e w' => e = .returned (.bool (subB E T)) ∧ W = w' from fun W hW => hwi.out j _ W hE hW)
            have hsu := Lib.hid (inFound_succ (T := T) hE)
            have hjj : (j : Int) < (fs.length : Int) := by omega
            have hin2 := Lib.hid hin
            clear hE hin
            generalize hsb : subB E T = sb at *
            have hsb := Lib.hid hsb
            go_wp2_with fail
            go_quiet ((go_at_call 32; exact quiet_eq (hw2.out _ (by first | exact hb1q.out | exact below_drewN hb1q.out _))))
            go_wp2_with fail
            go_roundw
            case rel => exact ⟨j + 1, by omega, by go_num, by rw [hsu.out, hin2.out]; rfl, below_drewN hbq _⟩
            case measure => simp [intOf]; omega
          · obtain rfl : j = fs.length := by omega
            have hnf := Lib.hid (inFound_no (Nat.le_refl _) hin)
            have hin := Lib.hid hin
            go_wp2_with fail
            go_loopw [8, 10] (fun gv i wq => ∃ r : Nat, r ≤ 64 ∧ i = .int .i64 r ∧ gv = .bool (askedB imp p T r) ∧ Below wo.heap.size wo wq) (fun _ i _ => 64 - (intOf i).toNat)
            case atStart => exact ⟨0, by omega, rfl, rfl, hbq⟩
            case round =>
              clear hbq hb1q
              obtain ⟨r, hr, rfl, rfl, hb3⟩ := hrel
              have hb13 := Lib.hid (keep_step hb3 hb)
              have hb4 := Lib.hid (keep_step hb13.out b1)
              have hsa := Lib.hid (asked_succ imp p T r)
              have hck := keep_cell hb3 hck
              cases ha : askedB imp p T r
              · have hno := Lib.hid ((hS.out.no hC.out hs.out (.inr (asked_no hr ha))).below hb3)
                clear ha
                by_cases hr64 : r < 64
                · have hrl : (r : Int) < 64 := by omega
                  go_wp2_with fail
                  go_roundw
                  case rel => exact ⟨k + 1, fs, by omega, by go_num, hno, hb13.out⟩
                  case measure => simp [intOf]; omega
                · obtain rfl : r = 64 := by omega
                  go_wp2_with fail
                  go_roundw
                  case rel => exact ⟨k + 1, fs, by omega, by go_num, hno, hb13.out⟩
                  case measure => simp [intOf]; omega
              · have ha2 := Lib.hid ha
                by_cases hr64 : r < 64
                · have hrw : IntKind.i64.wrap ((r : Int) + 1) = ((r + 1 : Nat) : Int) := by rw [IntWalk.i64_in _ (by omega)]; omega
                  have hrl : (r : Int) < 64 := by omega
                  clear ha
                  cases imp
                  · have htr := keep_cell hb4.out (htab2.out r hr64)
                    have hev := Lib.hid (show ∀ W, Below w1.heap.size w1 W → Calls Tryz.prog 34 #[.slice sa sn sc, .int .i64 (r : Int)] W fun e w' => e = .returned (.bool (someB T r)) ∧ W = w' from fun W hW => l04Some_any _ T r W (hTi.out.below hW (Nat.le_refl _)) hTin.out hr64)
                    have hask := Lib.hid (show askB false p T r = (!p r || someB T r) from rfl)
                    cases hpr : p r
                    · rw [hpr] at htr hask
                      clear hpr
                      go_wp2_with fail
                      go_roundw
                      case rel => exact ⟨r + 1, by omega, by go_num, by rw [hsa.out, hask.out, ha2.out]; rfl, hb3⟩
                      case measure => simp [intOf]; omega
                    · rw [hpr] at htr hask
                      clear hpr
                      generalize hsb : someB T r = sb at *
                      go_wp2_with fail
                      refine (hev.out _ hb13.out).mono ?_
                      rintro e w' ⟨rfl, rfl⟩
                      go_wp2_with fail
                      go_roundw
                      case rel => exact ⟨r + 1, by omega, by go_num, by rw [hsa.out, hask.out, ha2.out]; simp, hb3⟩
                      case measure => simp [intOf]; omega
                  · have htr := keep_cell hb4.out (htab2.out r hr64)
                    have hev := Lib.hid (show ∀ W, Below w1.heap.size w1 W → Calls Tryz.prog 33 #[.slice sa sn sc, .int .i64 (r : Int)] W fun e w' => e = .returned (.bool (termB T r)) ∧ W = w' from fun W hW => l04Each_any _ T r W (hTi.out.below hW (Nat.le_refl _)) hTin.out hr64)
                    have hask := Lib.hid (show askB true p T r = (p r || !termB T r) from rfl)
                    cases hpr : p r
                    · rw [hpr] at htr hask
                      clear hpr
                      generalize hsb : termB T r = sb at *
                      go_wp2_with fail
                      refine (hev.out _ hb13.out).mono ?_
                      rintro e w' ⟨rfl, rfl⟩
                      go_wp2_with fail
                      go_roundw
                      case rel => exact ⟨r + 1, by omega, by go_num, by rw [hsa.out, hask.out, ha2.out]; simp, hb3⟩
                      case measure => simp [intOf]; omega
                    · rw [hpr] at htr hask
                      clear hpr
                      go_wp2_with fail
                      go_roundw
                      case rel => exact ⟨r + 1, by omega, by go_num, by rw [hsa.out, hask.out, ha2.out]; rfl, hb3⟩
                      case measure => simp [intOf]; omega
                · obtain rfl : r = 64 := by omega
                  have hgood := Lib.hid (show goodB imp p T = true from ha)
                  have hfo := Lib.hid (own_below hS.out.own hb3 (Nat.le_refl _))
                  clear ha
                  have hmxb : fs.length + 1 ≤ maxLen := by unfold maxLen; omega
                  have hs3 := hb13.out.size
                  go_wp2_with (at_builtin; refine wpList_append_own_at _ rfl _ _ 24 rfl w1.heap.size 48 i0 (.slice none 0 0) 1 24 Tryz.underlying24 hi hz0 hz1 hz2 rfl (by decide) _ fs.length (fs.map slVI) rfl (hfo.out.alloc _) ⟨wr.heap.size, 0, none⟩ 1 1 [.slice sa sn sc] rfl rfl (cell_one_new _ _ _) (by simp [Value.oneCell']) hmxb (by omega) (by simp; omega) ?_; intro v5 w5 hown5 hgrow5 _ hblk5)
                  have hyes := Lib.hid (hS.out.yes (w2 := w5) (v2 := v5) hC.out hs.out hnf.out hgood.out hown5)
                  have hb5 := Lib.hid ((hb13.out.alloc hs3 (.cells #[.slice sa sn sc] 48)).grown hgrow5 (by simp; omega) (fun j hj => (hfo.out.lt j hj).1))
                  go_roundw
                  case rel => exact ⟨k + 1, _, by omega, by go_num, hyes, hb5.out⟩
                  case measure => simp [intOf]; omega
        · have hyes := Lib.hid (inFound_yes hin)
          clear hin
          by_cases hjl : j < fs.length
          · have hjj : (j : Int) < (fs.length : Int) := by omega
            go_wp2_with fail
            go_loopw [8, 10] (fun gv r wq => gv = .bool false ∧ r = .int .i64 0 ∧ Below wo.heap.size wo wq) (fun _ _ _ => 1)
            case atStart => exact ⟨rfl, rfl, hbq⟩
            case round =>
              obtain ⟨rfl, rfl, hb3⟩ := hrel
              have hno := Lib.hid ((hS.out.no hC.out hs.out (.inl hyes.out)).below hb3)
              have hb13 := Lib.hid (keep_step hb3 hb)
              go_wp2_with fail
              go_roundw
              case rel => exact ⟨k + 1, fs, by omega, by go_num, hno, hb13.out⟩
              case measure => simp [intOf]; omega
          · obtain rfl : j = fs.length := by omega
            go_wp2_with fail
            go_loopw [8, 10] (fun gv r wq => gv = .bool false ∧ r = .int .i64 0 ∧ Below wo.heap.size wo wq) (fun _ _ _ => 1)
            case atStart => exact ⟨rfl, rfl, hbq⟩
            case round =>
              obtain ⟨rfl, rfl, hb3⟩ := hrel
              have hno := Lib.hid ((hS.out.no hC.out hs.out (.inl hyes.out)).below hb3)
              have hb13 := Lib.hid (keep_step hb3 hb)
              go_wp2_with fail
              go_roundw
              case rel => exact ⟨k + 1, fs, by omega, by go_num, hno, hb13.out⟩
              case measure => simp [intOf]; omega
    · obtain rfl : k = cs.length := by omega
      have hdone := Lib.hid (show allU ltI (fs.map Prod.snd) = R from allU_ans hR.out fun x => (by have := hS.out.st; rw [show cs.length = (cs.map Prod.snd).length by simp] at this; exact this.done hC.out x))
      have hfl := hS.out.len
      have hso := Lib.hid (l04Sorted_any u6 (fs.map Prod.snd) wr ⟨fs, hS.out.sl, fun f hf => (hints.out f (hS.out.mem f hf)).below hb (Nat.le_refl _), rfl⟩ (by rw [List.length_map]; omega) (fun r hr => by
        obtain ⟨f, hf, rfl⟩ := List.mem_map.1 hr
        have := clause_len (hC.out.cl f.2 (List.mem_map_of_mem (hS.out.mem f hf)))
        omega))
      rw [hdone.out] at hso
      have hs3 := hb.size
      obtain ⟨hfm, fa, fc, fb, fo, rfl, hfc, hfz, hfcell⟩ := hS.out.sl.opened
      clear hfcell hfz hfm
      go_wp2_with fail
      refine hso.out.mono ?_
      rintro e w5 ⟨v5, rfl, hf5, b5⟩
      have b15 := Lib.hid (keep_step b5 hb)
      have b05 := Lib.hid (keep_step b15.out b1)
      obtain ⟨rb, ro, rc, rs, rfl, hrc, hrm, hrb, hrcell, hrl⟩ := hf5
      have hres := Lib.hid (show FiA w.heap.size w5 (.slice (some ⟨rb, ro, none⟩) rs.length rc) R from ⟨rb, ro, rc, rs, rfl, hrc, hrm, ⟨by omega, hrb.2⟩, fun i s hs => ⟨(hrcell i s hs).1, (hrcell i s hs).2.1, fun k hk => ⟨by have := ((hrcell i s hs).2.2 k hk).1; omega, ((hrcell i s hs).2.2 k hk).2⟩⟩, hrl⟩)
      clear hrcell hrl
      go_wp2_with fail
      go_ret
      exact ⟨_, rfl, hres.out, b05.out⟩
end Go.Proofs.YtmhkcicjbgifnaaGreat
