/- impl.primes: the terms that are kept, those with a smaller kept one struck out, sorted. -/
import Derived.Test.YtmhkcicjbgifnaaGreatMValsM
import Derived.Test.YtmhkcicjbgifnaaGreatMResM

namespace Go.Proofs.YtmhkcicjbgifnaaGreat
open Go.RowKit Go.Deep
set_option linter.unusedVariables false
set_option linter.unusedSimpArgs false

theorem zero_ints (w : World) : (zeroValue 48).run Tryz.prog w = .ok (.slice none 0 0) w := Tryz.zeroValue48 w
theorem kept_begin (p : Nat → Bool) (w : World) (ta tb : TypeId) :
    KeptSt w.heap.size p w.heap.size (w.heap.size + 1 + 1) (w.heap.size + 1) 0 (fun _ => none) (((w.alloc (.cells #[.int .u64 (rowsOf p 64 : Nat)] ta)).alloc (.map #[] 0)).alloc (.cells #[.map (some (w.heap.size + 1))] tb)) ∧
    Below w.heap.size w (((w.alloc (.cells #[.int .u64 (rowsOf p 64 : Nat)] ta)).alloc (.map #[] 0)).alloc (.cells #[.map (some (w.heap.size + 1))] tb)) := by
  have hb : Below w.heap.size w (((w.alloc (.cells #[.int .u64 (rowsOf p 64 : Nat)] ta)).alloc (.map #[] 0)).alloc (.cells #[.map (some (w.heap.size + 1))] tb)) := (((Below.refl _ w).alloc (Nat.le_refl _) _).alloc (by simp) _).alloc (by simp; omega) _
  refine ⟨⟨?_, ?_, ?_, KeptF.nil _ _ _, hb.size⟩, hb⟩
  · have h1 : (w.alloc (.cells #[.int .u64 (rowsOf p 64 : Nat)] ta)).cell? ⟨w.heap.size, 0, none⟩ = some (.int .u64 (rowsOf p 64 : Nat)) := cell_one_new w _ _ 0 _ rfl
    exact keep_cell ((Below.refl _ _).alloc (Nat.le_refl _) _) (keep_cell ((Below.refl _ _).alloc (Nat.le_refl _) _) h1)
  · have h1 := cell_one_new ((w.alloc (.cells #[.int .u64 (rowsOf p 64 : Nat)] ta)).alloc (.map #[] 0)) (.map (some (w.heap.size + 1))) tb 0 _ rfl
    simp only [World.size_alloc, Addr.add] at h1
    exact h1
  · have h1 := mapV_made Tryz.prog 2 (w.alloc (.cells #[.int .u64 (rowsOf p 64 : Nat)] ta))
    rw [World.size_alloc] at h1
    exact h1.below ((Below.refl _ _).alloc (Nat.le_refl _) _)
/-- A key whose term has a smaller kept one. -/
def small (p : Nat → Bool) (y : Int) : Prop := ∃ T, clauseB T = true ∧ y = ((orBits T : Nat) : Int) ∧ ∃ i, i < T.length ∧ impB p (T.take i ++ T.drop (i + 1)) = true
/-- Where the first loop stands. -/
structure LoopP (b : Nat) (D : DataW Value) (w4 wr : World) (v : Value) (xs : List Int) (left : Lit → Bool) (cnt : Nat) (q : Int → Prop) : Prop where
  rg : wr.ranges Tryz.prog 2 heldElem b w4.heap.size 1000 D left cnt
  ab : wr.ownsRow (w4.heap.size + 1) 2 1 v xs.length (xs.map (Value.int .i64))
  bel : Below w4.heap.size w4 wr
  len : xs.length + cnt ≤ 1000
  st : ∀ y, y ∈ xs ↔ q y
  blt : b < w4.heap.size
theorem LoopP.below {b : Nat} {D : DataW Value} {w4 wr w' : World} {v : Value} {xs : List Int} {left : Lit → Bool} {cnt : Nat} {q : Int → Prop} (h : LoopP b D w4 wr v xs left cnt q) (hb : Below wr.heap.size wr w') : LoopP b D w4 w' v xs left cnt q :=
  ⟨h.rg.kept (grown_of_below (row := none) hb) (by simp) (by simp), own_below h.ab hb (Nat.le_refl _), keep_step hb h.bel, h.len, h.st, h.blt⟩
theorem LoopP.next {b : Nat} {D : DataW Value} {w4 wr w' : World} {v : Value} {xs : List Int} {left left' : Lit → Bool} {cnt cnt' : Nat} {q : Int → Prop} (h : LoopP b D w4 wr v xs left cnt q) (hg : wr.grownBy w' (some w4.heap.size)) (hr : w'.ranges Tryz.prog 2 heldElem b w4.heap.size 1000 D left' cnt') (hc : cnt' < cnt) : LoopP b D w4 w' v xs left' cnt' q := by
  refine ⟨hr, row_same h.ab fun k hk hk2 hl => hg.block k hl fun e => ?_, h.bel.grown hg h.bel.size (fun k e => by injection e with e; omega), by have := h.len; omega, h.st, h.blt⟩
  have h1 := (h.ab.lt k hk).1
  obtain rfl : k = w4.heap.size := by simpa using e
  omega
theorem LoopP.push {b : Nat} {D : DataW Value} {w4 wr w' : World} {v v' : Value} {xs : List Int} {left : Lit → Bool} {cnt : Nat} {q : Int → Prop} {o : Obj} {x : Int} (h : LoopP b D w4 wr v xs left cnt q) (hl : xs.length + 1 + cnt ≤ 1000)
    (ho : w'.ownsRow (w4.heap.size + 1) 2 1 v' (xs.length + 1) (xs.map (Value.int .i64) ++ [.int .i64 x])) (hg : (wr.alloc o).grownBy w' v.ownBlock) : LoopP b D w4 w' v' (xs ++ [x]) left cnt (fun y => q y ∨ y = x) := by
  have hne : ∀ k, v.ownBlock = some k → w4.heap.size + 1 ≤ k := fun k hk => (h.ab.lt k hk).1
  have hbl := h.bel.size
  have hbm := h.blt
  refine ⟨(h.rg.alloc o).kept hg (fun e => by have := hne b e.symm; omega) (fun e => by have := hne _ e.symm; omega), by rw [List.length_append, List.map_append]; exact ho, (h.bel.alloc hbl o).grown hg (by simp; omega) (fun k hk => by have := hne k hk; omega), by rw [List.length_append]; exact hl, fun y => ?_, h.blt⟩
  rw [List.mem_append, h.st]
  simp
theorem LoopP.same {b : Nat} {D : DataW Value} {w4 wr : World} {v : Value} {xs : List Int} {left : Lit → Bool} {cnt : Nat} {q q' : Int → Prop} (h : LoopP b D w4 wr v xs left cnt q) (hq : ∀ y, q y ↔ q' y) : LoopP b D w4 wr v xs left cnt q' := ⟨h.rg, h.ab, h.bel, h.len, fun y => (h.st y).trans (hq y), h.blt⟩
theorem small_no {p : Nat → Bool} {T : List Int} (hT : clauseB T = true) (h : ∀ i, i < T.length → impB p (T.take i ++ T.drop (i + 1)) = false) : ¬ small p ((orBits T : Nat) : Int) := by
  rintro ⟨T', h1, h2, i, h3, h4⟩
  obtain rfl : T = T' := key_inj hT h1 (by omega)
  rw [h i h3] at h4
  cases h4
theorem target_no {p : Nat → Bool} {f : Int → Option Value} {left : Lit → Bool} {x : Int} (hn : ¬ small p x) (y : Int) : ((f y).isSome = true ∧ left (.int .i64 y) = false ∧ small p y) ↔ ((f y).isSome = true ∧ (left (.int .i64 y) && !(Lit.int .i64 y).sameKey (.int .i64 x)) = false ∧ small p y) := by
  by_cases e : y = x
  · subst e
    constructor <;> exact fun h => absurd h.2.2 hn
  · simp [Lit.sameKey, e]
theorem target_yes {p : Nat → Bool} {f : Int → Option Value} {left : Lit → Bool} {x : Int} (hs : small p x) (hx : (f x).isSome = true) (y : Int) : (((f y).isSome = true ∧ left (.int .i64 y) = false ∧ small p y) ∨ y = x) ↔ ((f y).isSome = true ∧ (left (.int .i64 y) && !(Lit.int .i64 y).sameKey (.int .i64 x)) = false ∧ small p y) := by
  by_cases e : y = x
  · subst e
    simp [Lit.sameKey, hs, hx]
  · simp [Lit.sameKey, e]
def delL (f : Int → Option Value) (xs : List Int) : Int → Option Value := fun y => if y ∈ xs then none else f y
theorem delL_next {f : Int → Option Value} {xs : List Int} {k : Nat} {x : Int} (h : xs[k]? = some x) : delF (delL f (xs.take k)) x = delL f (xs.take (k + 1)) := by
  funext y
  unfold delF delL
  rw [List.take_add_one, h]
  by_cases e : y = x
  · simp [e]
  · simp [e]
theorem delL_nil (f : Int → Option Value) : delL f [] = f := by funext y; simp [delL]
theorem KeptF.del {K : Nat} {p : Nat → Bool} {f : Int → Option Value} {w : World} (h : KeptF K p f w) (xs : List Int) : KeptF K p (delL f xs) w := by
  have key : ∀ y v, delL f xs y = some v → f y = some v := fun y v hy => by
    unfold delL at hy
    split at hy
    · cases hy
    · exact hy
  exact ⟨fun x v hx => h.sound x v (key x v hx), fun x y v u hxy hx hy => h.apart x y v u hxy (key x v hx) (key y u hy)⟩
/-- Where the loop that strikes keys out stands. -/
structure DelP (K : Nat) (p : Nat → Bool) (kb b B : Nat) (f : Int → Option Value) (w wr : World) (v : Value) (xs : List Int) (k : Nat) : Prop where
  kc : wr.cell? ⟨kb, 0, none⟩ = some (.map (some b))
  map : MapV Tryz.prog 2 wr b 1000 (delL f (xs.take k))
  kept : KeptF K p f wr
  ab : wr.ownsRow B 2 1 v xs.length (xs.map (Value.int .i64))
  bel : Below K w wr
theorem DelP.next {K : Nat} {p : Nat → Bool} {kb b B : Nat} {f : Int → Option Value} {w wr w' : World} {v : Value} {xs : List Int} {k : Nat} {x : Int} (h : DelP K p kb b B f w wr v xs k) (hx : xs[k]? = some x) (hK : K ≤ wr.heap.size) (hbK : K ≤ b) (hm : MapV Tryz.prog 2 w' b 1000 (delF (delL f (xs.take k)) x)) (hg : wr.grownBy w' (some b)) : DelP K p kb b B f w w' v xs (k + 1) :=
  ⟨cell_mapped h.kc h.map hg, by rw [← delL_next hx]; exact hm, h.kept.mapped h.map hg, row_mapped h.ab h.map hg, h.bel.grown hg hK (fun k e => by injection e with e; omega)⟩
theorem prime_mem {p : Nat → Bool} {f : Int → Option Value} {left : Lit → Bool} {xs : List Int} (hd : domB (fun _ => none) f fun S => impB p S = true) (hl : ∀ kl, left kl = false) (hs : ∀ y, y ∈ xs ↔ ((f y).isSome = true ∧ left (.int .i64 y) = false ∧ small p y)) (T : List Int) : (clauseB T = true ∧ delL f xs ((orBits T : Nat) : Int) ≠ none) ↔ isPr (impB p) T := by
  constructor
  · rintro ⟨hT, h⟩
    have h1 : ((orBits T : Nat) : Int) ∉ xs := fun hm => h (by unfold delL; rw [if_pos hm])
    have h2 : f ((orBits T : Nat) : Int) ≠ none := fun he => h (by unfold delL; rw [if_neg h1]; exact he)
    have h3 : impB p T = true := by
      rcases (hd T hT).1 h2 with h3 | h3
      · exact absurd rfl h3
      · exact h3
    rw [pr_drops hT h3]
    intro i hi
    cases h4 : impB p (T.take i ++ T.drop (i + 1))
    · rfl
    · exact absurd ((hs _).2 ⟨Option.isSome_iff_ne_none.2 h2, hl _, T, hT, rfl, i, hi, h4⟩) h1
  · intro hp
    have hT := hp.1
    have h3 := hp.2.1
    rw [pr_drops hT h3] at hp
    refine ⟨hT, ?_⟩
    have h1 : ((orBits T : Nat) : Int) ∉ xs := fun hm => small_no hT hp ((hs _).1 hm).2.2
    unfold delL
    rw [if_neg h1]
    exact (hd T hT).2 (.inr h3)
set_option maxHeartbeats 8000000 in
set_option maxRecDepth 100000 in
theorem primes_any (p : Nat → Bool) (R : List (List Int)) (hR : isAns (impB p) R) (w : World) :
    Calls Tryz.prog 21 #[.int .u64 (rowsOf p 64 : Nat)] w fun e w' => ∃ (v : Value) (ss : List SlI), e = .returned v ∧ GrowI w.heap.size w' v ss ∧ Hid (ss.map Prod.snd = R) ∧ Below w.heap.size w w' := by
  have hbeg := Lib.hid (fun ta tb => kept_begin p w ta tb)
  have hR := Lib.hid hR
  have hmm := @run_makeMap Tryz.prog
  generalize ((rowsOf p 64 : Nat) : Int) = Y at *
  go_enter Tryz.func21, Tryz.ntmps21
  go_wp2_with fail
  refine (allTerms_any w.heap.size p w.heap.size (w.heap.size + 1 + 1) (w.heap.size + 1) _ (hbeg.out _ _).1).mono ?_
  rintro e w4 ⟨⟨u0, rfl⟩, f, hk4, hg4, hd4⟩
  have hb4 := Lib.hid ((hbeg.out _ _).2.grown hg4 (hbeg.out _ _).2.size (fun k e => by simp at e; omega))
  clear hg4 hbeg hmm
  have hb4s := hb4.out.size
  obtain ⟨D, hD, hrf⟩ := hk4.map
  have hkc4 := hk4.kc
  have hDs := hD.size_le
  have hk4 := Lib.hid hk4
  have hd4 := Lib.hid hd4
  have hrf := Lib.hid hrf
  generalize hbb : w.heap.size + 1 = b at *
  have hbw : w.heap.size ≤ b := by omega
  replace hbb := Lib.hid hbb
  generalize hkk : b + 1 = kb at *
  replace hkk := Lib.hid hkk
  have hDh := Lib.hid hD
  clear hD
  go_wp2_with (first | (at_range; refine wpList_range_own _ rfl _ 61 rfl 2 48 law_i64 Tryz.underlying61 _ b 1000 D rfl hDh.out ?_; intro w5 hrg0 hg0 hs0) | go_in)
  go_frame
  have hL0 := Lib.hid (show LoopP b D w4 w5 (.slice none 0 0) [] (Maps.has D) (Maps.size D) (fun y => (f y).isSome = true ∧ Maps.has D (.int .i64 y) = false ∧ small p y) from ⟨hrg0, World.ownsRow_nil _ _ _ _, ⟨hg0.os, hg0.tape, hg0.output, hg0.size, fun k hk => hg0.block k hk (by simp)⟩, by simpa using hDs, fun y => by rw [(hrf.out y).2]; cases (f y).isSome <;> simp, hk4.out.map.lt⟩)
  clear hrg0 hg0 hs0
  go_loopw [4] (fun v wr => ∃ (left : Lit → Bool) (cnt : Nat) (xs : List Int), Hid (LoopP b D w4 wr v xs left cnt (fun y => (f y).isSome = true ∧ left (.int .i64 y) = false ∧ small p y))) (fun _ wr => wr.rangeLeft b w4.heap.size)
  case atStart => exact ⟨_, _, _, hL0⟩
  case round =>
    clear hL0
    obtain ⟨left, cnt, xs, hL⟩ := hrel
    go_wp2_with (first | (at_next; refine wpList_next_ranges _ rfl _ rfl 2 law_i64 heldElem (Value.int .i64) (fun v : Value => v) (fun key kl hk => by obtain ⟨x, hx, _⟩ := Maps.keyOf_int_inv Tryz.underlying2 hk; exact ⟨x, hx⟩) (fun v y hv => ⟨v, rfl⟩) b w4.heap.size 1000 _ _ _ rfl hL.out.rg ?_ ?_) | go_in)
    · intro hc0 hl0
      have hmemP := Lib.hid (prime_mem hd4.out hl0 hL.out.st)
      have hxk := Lib.hid (show ∀ y ∈ xs, (Lit.int .i64 y).wf = true from fun y hy => by
        obtain ⟨T, hT, he, _⟩ := ((hL.out.st y).1 hy).2.2
        rw [he]
        exact key_wf hT)
      have hD0 := Lib.hid (show DelP w.heap.size p kb b (w4.heap.size + 1) f w wr u4 xs 0 from ⟨keep_cell hL.out.bel hkc4, by rw [List.take_zero, delL_nil]; exact hk4.out.map.below hL.out.bel, hk4.out.kept.below hL.out.bel, hL.out.ab, Below.trans hb4.out (hL.out.bel.mono hb4s)⟩)
      have hxl : xs.length ≤ 1000 := by have := hL.out.len; omega
      obtain ⟨xa, xc, rfl⟩ := (ints_of_own hL.out.ab).shape
      clear hL
      generalize hxn : xs.length = xn at *
      replace hxn := Lib.hid hxn
      go_wp2_with fail
      go_loopw [44] (fun i wr => ∃ k : Nat, k ≤ xn ∧ i = .int .i64 k ∧ Hid (DelP w.heap.size p kb b (w4.heap.size + 1) f w wr (.slice xa xn xc) xs k)) (fun i _ => xn - (intOf i).toNat)
      case atStart => exact ⟨0, Nat.zero_le _, rfl, hD0⟩
      case round =>
        clear hD0
        obtain ⟨k, hk, rfl, hDk⟩ := hrel
        have hkcD := hDk.out.kc
        have hKs := hDk.out.bel.size
        by_cases hkn : k < xn
        · obtain ⟨hm9, a9, c9, b9, o9, hv9, hc9, hz9, hcell9⟩ := (ints_of_own hDk.out.ab).opened
          rw [hxn.out] at hv9 hc9 hz9 hcell9
          injection hv9 with e1 e2 e3
          subst e1
          subst e3
          obtain rfl : xa = some ⟨b9, o9, none⟩ := by
            rcases hz9 with h | ⟨_, h⟩
            · omega
            · exact h
          obtain ⟨x, hx, hcx⟩ := hcell9.out k hkn
          have hwx := hxk.out x (List.mem_of_getElem? hx)
          have hkx : (k : Int) < (xn : Int) := by omega
          have hx := Lib.hid hx
          clear hm9 hz9 hcell9 e2
          go_wp2_with (first | (at_delete; refine wpList_delete_mapV rfl _ _ 61 2 rfl 48 Tryz.underlying2 Tryz.underlying61 b 1000 (delL f (xs.take k)) rfl hDk.out.map x rfl hwx ?_; intro w7 hm7 hg7) | go_in)
          have hD7 := Lib.hid (hDk.out.next hx.out hKs hbw hm7 hg7)
          go_roundw
          case rel => exact ⟨k + 1, by omega, by go_num, hD7⟩
          case measure => simp [intOf]; omega
        · obtain rfl : k = xn := by omega
          have hmapE := Lib.hid (show MapV Tryz.prog 2 wr b 1000 (delL f xs) from by have := hDk.out.map; rwa [List.take_of_length_le (by rw [hxn.out]; exact Nat.le_refl _)] at this)
          have hnewc := Lib.hid (show (wr.alloc (.cells #[.map (some b)] 61)).cell? ⟨wr.heap.size, 0, none⟩ = some (.map (some b)) from cell_one_new wr _ _ 0 _ rfl)
          have hba := Lib.hid ((Below.refl wr.heap.size wr).alloc (Nat.le_refl _) (.cells #[.map (some b)] 61))
          have hsf := Lib.hid (sortedFunc_any w.heap.size p wr.heap.size b 1000 (Nat.le_refl _) (delL f xs) _ hnewc.out (hmapE.out.below hba.out) ((hDk.out.kept.del xs).below hba.out) (by simp; omega))
          go_wp2_with fail
          refine (valuesFn_any (some b) _).mono ?_
          rintro e w8 ⟨rfl, rfl⟩
          go_wp2_with fail
          refine hsf.out.mono ?_
          rintro e w9 ⟨v9, ss, rfl, hg9, hs9, hb9⟩
          have hg9 := Lib.hid hg9
          have hb9 := Lib.hid (hDk.out.bel.trans ((hba.out.mono hKs).trans hb9))
          go_wp2_with fail
          go_ret
          exact ⟨v9, ss, rfl, hg9.out, Lib.hid (isAns_one ⟨hs9.out.1, fun T => (hs9.out.2 T).trans (hmemP.out T)⟩ hR.out), hb9.out⟩
    · intro x c kl yd yp w2 cnt2 hkey hlk hv hat hrg2 hlt hg2 hs2 hen
      obtain ⟨x', ex, rfl, hwf⟩ := Maps.keyOf_int_inv Tryz.underlying2 hkey
      obtain rfl : x = x' := by simpa using ex
      have hfx : f x = some c := by
        have h1 : yd = .held c := (congrArg Prod.fst (Option.some.inj hv)).symm
        have h2 := hat (.lit (.int .i64 0))
        rw [(hrf.out x).1, h1] at h2
        cases hf : f x with
        | none => rw [hf] at h2; cases h2
        | some u => rw [hf] at h2; injection h2 with e; rw [e]
      obtain ⟨T, hT, hTi, hxT, hrow⟩ := hk4.out.kept.sound x c hfx
      have hL2 := Lib.hid (hL.out.next hg2 hrg2 hlt)
      have hrow4 := Lib.hid hrow
      have hrow2 := own_below hrow hL2.out.bel (Nat.le_refl _)
      obtain ⟨ca, cc, rfl⟩ := (ints_of_own hrow2).shape
      have hrow2 := Lib.hid hrow2
      clear hkey hv hat hrg2 hg2 hs2 ex hrow
      have htl := clause_len hT
      obtain ⟨i0, hi, hz0, hz1, hz2⟩ := info_parts info_i64
      have hcl1 : xs.length + 1 + cnt2 ≤ 1000 := by have := hL.out.len; omega
      have hlt2 := Lib.hid hlt
      have hLold := hL
      generalize htn : T.length = n at *
      replace htn := Lib.hid htn
      have hxTh := Lib.hid hxT
      clear hL hlt hxT
      have hfxs := Lib.hid (show (f x).isSome = true by rw [hfx]; rfl)
      clear hfx
      go_wp2_with fail
      go_loopw [4, 24] (fun v i wq => ∃ j : Nat, j ≤ n ∧ i = .int .i64 j ∧ v = u4 ∧ Hid (LoopP b D w4 wq u4 xs (fun z => left z && !z.sameKey (.int .i64 x)) cnt2 (fun y => (f y).isSome = true ∧ left (.int .i64 y) = false ∧ small p y)) ∧ Hid (∀ j', j' < j → impB p (T.take j' ++ T.drop (j' + 1)) = false)) (fun _ i _ => n - (intOf i).toNat)
      case atStart => exact ⟨0, Nat.zero_le _, rfl, rfl, hL2, Lib.hid (fun j' hj => by omega)⟩
      case round =>
        clear hL2
        obtain ⟨j, hj, rfl, rfl, hL3, hno⟩ := hrel
        by_cases hjn : j < n
        · have hTj := drop_clause hT j
          have hwj := key_wf hTj
          have hb3 := Lib.hid hL3.out.bel
          have hintT := Lib.hid (show ∀ W, Below wr.heap.size wr W → Ints W (.slice ca n cc) T from fun W hW => ints_of_own (own_below hrow4.out (keep_step hW hb3.out) (Nat.le_refl _)))
          have hinj := Lib.hid (show ∀ y ∈ T.take j ++ T.drop (j + 1), 0 ≤ y ∧ y ≤ 11 from fun y hy => clause_in hTj hy)
          have hkcA := keep_cell hb3.out hkc4
          have hmapA := Lib.hid (hk4.out.map.below hb3.out)
          have hook := Lib.hid (show (f ((orBits (T.take j ++ T.drop (j + 1)) : Nat) : Int)).isSome = impB p (T.take j ++ T.drop (j + 1)) by
            have h1 := hd4.out _ hTj
            simp only [ne_eq, not_true_eq_false, false_or] at h1
            cases hf : f ((orBits (T.take j ++ T.drop (j + 1)) : Nat) : Int) with
            | none =>
              rw [hf] at h1
              cases h5 : impB p (T.take j ++ T.drop (j + 1))
              · rfl
              · rw [h5] at h1; simp at h1
            | some u =>
              rw [hf] at h1
              cases h5 : impB p (T.take j ++ T.drop (j + 1))
              · rw [h5] at h1; simp at h1
              · rfl)
          have hsm := Lib.hid (show impB p (T.take j ++ T.drop (j + 1)) = true → small p x from fun h => ⟨T, hT, hxTh.out, j, by rw [htn.out]; exact hjn, h⟩)
          have hdr := Lib.hid (show ∀ W, Below wr.heap.size wr W → Calls Tryz.prog 46 #[.slice ca n cc, .int .i64 (j : Int)] W fun e w' => ∃ a' n' c', e = .returned (.slice a' n' c') ∧ Ints w' (.slice a' n' c') (T.take j ++ T.drop (j + 1)) ∧ Below wr.heap.size wr w' from fun W hW => (dropped_any (.slice ca n cc) T j W (hintT.out W hW) (by rw [htn.out]; exact hjn) (by rw [htn.out]; omega)).mono (by
            rintro e w' ⟨v', rfl, ho, hb⟩
            have h1 : Ints w' v' (T.take j ++ T.drop (j + 1)) := by
              have hl : (T.take j ++ T.drop (j + 1)).length = T.length - 1 := by
                have h3 := htn.out
                simp
                omega
              rw [← hl] at ho
              exact ints_of_own ho
            obtain ⟨a', c', rfl⟩ := h1.shape
            exact ⟨a', _, c', rfl, h1, keep_step hb hW⟩))
          have hno2 := Lib.hid (show impB p (T.take j ++ T.drop (j + 1)) = false → ∀ j', j' < j + 1 → impB p (T.take j' ++ T.drop (j' + 1)) = false from fun h j' hj' => by
            rcases Nat.lt_or_ge j' j with h2 | h2
            · exact hno.out j' h2
            · obtain rfl : j' = j := by omega
              exact h)
          have hkey := Lib.hid (show ∀ W a' n' c', Ints W (.slice a' n' c') (T.take j ++ T.drop (j + 1)) → Calls Tryz.prog 45 #[.slice a' n' c'] W fun e w' => e = .returned (.int .i64 ((orBits (T.take j ++ T.drop (j + 1)) : Nat) : Int)) ∧ W = w' from fun W a' n' c' h => clauseKey_any _ _ W h hinj.out)
          have hjn2 : (j : Int) < (n : Int) := by omega
          clear hinj hTj hno
          generalize hkk2 : ((orBits (T.take j ++ T.drop (j + 1)) : Nat) : Int) = key at *
          replace hkk2 := Lib.hid hkk2
          generalize hT2 : T.take j ++ T.drop (j + 1) = Tj at *
          replace hT2 := Lib.hid hT2
          cases hd : impB p Tj
          · rw [hd] at hook hno2 hsm
            clear hd
            go_wp2_with fail
            go_region_with (first
              | (go_at_call 46; refine (hdr.out _ (by first | exact Below.refl _ _ | exact Below.drew (Below.refl _ _) | exact below_drewN' _ _)).mono ?_; rintro e w3 ⟨a3, n3, c3, rfl, hi3, b3⟩; have hkc3 := keep_cell b3 hkcA; have hlk3 := (hmapA.out.below b3).look_run (t := 61) (e := 48) Tryz.underlying2 Tryz.underlying61 (zero_ints _) key hwj; rw [hook.out] at hlk3)
              | (go_at_call 45; refine (hkey.out _ _ _ _ hi3).mono ?_; rintro e w' ⟨rfl, rfl⟩))
            all_goals
              have hL5 := Lib.hid (hL3.out.below b3)
              clear hlk3 hkc3 hi3 b3
              go_wp2_with fail
              go_roundw
              case rel => exact ⟨j + 1, by omega, by go_num, rfl, hL5, Lib.hid (hno2.out trivial)⟩
              case measure => simp [intOf]; omega
          · rw [hd] at hook hsm
            clear hd
            go_wp2_with fail
            go_region_with (first
              | (go_at_call 46; refine (hdr.out _ (by first | exact Below.refl _ _ | exact Below.drew (Below.refl _ _) | exact below_drewN' _ _)).mono ?_; rintro e w3 ⟨a3, n3, c3, rfl, hi3, b3⟩; have hkc3 := keep_cell b3 hkcA; have hlk3 := (hmapA.out.below b3).look_run (t := 61) (e := 48) Tryz.underlying2 Tryz.underlying61 (zero_ints _) key hwj; rw [hook.out] at hlk3)
              | (go_at_call 45; refine (hkey.out _ _ _ _ hi3).mono ?_; rintro e w' ⟨rfl, rfl⟩))
            all_goals
              have hL5 := Lib.hid (hL3.out.below b3)
              have hr5 := hL5.out.rg.lt
              clear hlk3 hkc3 hi3 b3
              go_wp2_with (at_builtin; refine wpList_append_own_at _ rfl _ _ 48 rfl (w4.heap.size + 1) 2 i0 (.int .i64 0) 1 8 Tryz.underlying48 hi hz0 hz1 hz2 rfl (by decide) _ xs.length (xs.map (Value.int .i64)) rfl (hL5.out.ab.alloc _) ⟨w3.heap.size, 0, none⟩ 1 1 [.int .i64 x] rfl rfl (cell_one_new _ _ _) (ints_oneCell [x]) (by unfold maxLen; omega) (by omega) (by simp; omega) ?_; intro v6 w6 hown6 hgrow6 _ hblk6)
              have hLp := Lib.hid ((hL5.out.push hcl1 hown6 hgrow6).same (q' := fun y => (f y).isSome = true ∧ (left (.int .i64 y) && !(Lit.int .i64 y).sameKey (.int .i64 x)) = false ∧ small p y) fun y => target_yes (hsm.out trivial) hfxs.out y)
              go_roundw
              case rel => exact ⟨_, cnt2, _, hLp⟩
              case measure => rw [hLp.out.rg.left_eq, hLold.out.rg.left_eq]; exact hlt2.out
        · obtain rfl : j = n := by omega
          have hL4 := Lib.hid (hL3.out.same (q' := fun y => (f y).isSome = true ∧ (left (.int .i64 y) && !(Lit.int .i64 y).sameKey (.int .i64 x)) = false ∧ small p y) fun y => target_no (by rw [hxTh.out]; exact small_no hT fun i hi => hno.out i (by rw [htn.out] at hi; exact hi)) y)
          go_wp2_with fail
          go_roundw
          case rel => exact ⟨_, cnt2, xs, hL4⟩
          case measure => rw [hL4.out.rg.left_eq, hLold.out.rg.left_eq]; exact hlt2.out
end Go.Proofs.YtmhkcicjbgifnaaGreat
