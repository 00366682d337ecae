/- Plain theory: a formula's text tells the formula. No program is named here. -/
import Derived.Test.YtdpnkojchimmfaaQBTextMath

namespace Go.Proofs.Ytdpnkojchimmfaa
open Go.RowKit Go.Deep

/-- A reader of texts: 3 an item, 2 items with '&', 1 these with '|', 0 these with '>'; 12 and 11 go on from what was read. -/
def rd : Nat → Nat → List Nd → List UInt8 → Option (List Nd × List UInt8)
  | 0, _, _, _ => none
  | n + 1, k, acc, s =>
    if k = 3 then
      match s with
      | [] => none
      | c :: s =>
        if c = 70 then some ([(1, 0)], s)
        else if c = 84 then some ([(4, 0), (1, 0), (1, 0)], s)
        else if c = 126 then (match rd n 3 [] s with | none => none | some p => some ((4, 0) :: (p.1 ++ [(1, 0)]), p.2))
        else if c = 91 then (match rd n 3 [] (s.drop 1) with | none => none | some p => some ((5, 0) :: p.1, p.2))
        else if c = 60 then (match rd n 3 [] (s.drop 1) with | none => none | some p => some ((6, 0) :: p.1, p.2))
        else if c = 40 then (match rd n 0 [] s with | none => none | some p => some (p.1, p.2.drop 1))
        else some ([(0, (c.toNat : Int) - 112)], s)
    else if k = 2 then (match rd n 3 [] s with | none => none | some p => rd n 12 p.1 p.2)
    else if k = 12 then
      if s.head? = some 38 then (match rd n 3 [] (s.drop 1) with | none => none | some p => rd n 12 ((2, 0) :: (acc ++ p.1)) p.2)
      else some (acc, s)
    else if k = 1 then (match rd n 2 [] s with | none => none | some p => rd n 11 p.1 p.2)
    else if k = 11 then
      if s.head? = some 124 then (match rd n 2 [] (s.drop 1) with | none => none | some p => rd n 11 ((3, 0) :: (acc ++ p.1)) p.2)
      else some (acc, s)
    else
      match rd n 1 [] s with
      | none => none
      | some p => if p.2.head? = some 62 then (match rd n 0 [] (p.2.drop 1) with | none => none | some q => some ((4, 0) :: (p.1 ++ q.1), q.2)) else some p

def S3 (T : List UInt8) (x : List Nd) (c : Nat) : Prop := ∀ n, c ≤ n → ∀ s, rd n 3 [] (T ++ s) = some (x, s)
def S2 (T : List UInt8) (x : List Nd) (c : Nat) : Prop := ∀ n, c ≤ n → ∀ s, ∃ m, n ≤ m + c ∧ rd n 2 [] (T ++ s) = rd m 12 x s
def S1 (T : List UInt8) (x : List Nd) (c : Nat) : Prop := ∀ n, c ≤ n → ∀ s : List UInt8, s.head? ≠ some 38 → ∃ m, n ≤ m + c ∧ rd n 1 [] (T ++ s) = rd m 11 x s
def S0 (T : List UInt8) (x : List Nd) (c : Nat) : Prop := ∀ n, c ≤ n → ∀ s : List UInt8, s.head? ≠ some 38 → s.head? ≠ some 124 → s.head? ≠ some 62 → rd n 0 [] (T ++ s) = some (x, s)

theorem rd12_end {n : Nat} {x : List Nd} {s : List UInt8} (h : s.head? ≠ some 38) : rd (n + 1) 12 x s = some (x, s) := by
  simp [rd, h]
theorem rd12_and {n : Nat} {x : List Nd} {s : List UInt8} : rd (n + 1) 12 x (38 :: s) = (match rd n 3 [] s with | none => none | some p => rd n 12 ((2, 0) :: (x ++ p.1)) p.2) := by
  simp [rd]
theorem rd11_end {n : Nat} {x : List Nd} {s : List UInt8} (h : s.head? ≠ some 124) : rd (n + 1) 11 x s = some (x, s) := by
  simp [rd, h]
theorem rd11_or {n : Nat} {x : List Nd} {s : List UInt8} : rd (n + 1) 11 x (124 :: s) = (match rd n 2 [] s with | none => none | some p => rd n 11 ((3, 0) :: (x ++ p.1)) p.2) := by
  simp [rd]
theorem rd2 {n : Nat} {s : List UInt8} : rd (n + 1) 2 [] s = (match rd n 3 [] s with | none => none | some p => rd n 12 p.1 p.2) := by simp [rd]
theorem rd1 {n : Nat} {s : List UInt8} : rd (n + 1) 1 [] s = (match rd n 2 [] s with | none => none | some p => rd n 11 p.1 p.2) := by simp [rd]
theorem rd0 {n : Nat} {s : List UInt8} : rd (n + 1) 0 [] s = (match rd n 1 [] s with
      | none => none
      | some p => if p.2.head? = some 62 then (match rd n 0 [] (p.2.drop 1) with | none => none | some q => some ((4, 0) :: (p.1 ++ q.1), q.2)) else some p) := by simp [rd]
theorem rd3_par {n : Nat} {s : List UInt8} : rd (n + 1) 3 [] (40 :: s) = (match rd n 0 [] s with | none => none | some p => some (p.1, p.2.drop 1)) := by simp [rd]
theorem rd3_not {n : Nat} {s : List UInt8} : rd (n + 1) 3 [] (126 :: s) = (match rd n 3 [] s with | none => none | some p => some ((4, 0) :: (p.1 ++ [(1, 0)]), p.2)) := by simp [rd]
theorem rd3_box {n : Nat} {c : UInt8} {s : List UInt8} : rd (n + 1) 3 [] (91 :: c :: s) = (match rd n 3 [] s with | none => none | some p => some ((5, 0) :: p.1, p.2)) := by simp [rd]
theorem rd3_dia {n : Nat} {c : UInt8} {s : List UInt8} : rd (n + 1) 3 [] (60 :: c :: s) = (match rd n 3 [] s with | none => none | some p => some ((6, 0) :: p.1, p.2)) := by simp [rd]

theorem suc {c n : Nat} (h : c + 1 ≤ n) : ∃ m, n = m + 1 ∧ c ≤ m := ⟨n - 1, by omega, by omega⟩

theorem S3.up {T : List UInt8} {x : List Nd} {c : Nat} (h : S3 T x c) : S2 T x (c + 1) := by
  intro n hn s
  obtain ⟨m, rfl, hm⟩ := suc hn
  exact ⟨m, by omega, by rw [rd2, h m hm s]⟩
theorem S2.up {T : List UInt8} {x : List Nd} {c : Nat} (h : S2 T x c) : S1 T x (c + 2) := by
  intro n hn s hs
  obtain ⟨m, rfl, hm⟩ := suc hn
  obtain ⟨k, hk, e⟩ := h m (by omega) s
  obtain ⟨j, rfl, _⟩ := suc (show 0 + 1 ≤ k by omega)
  exact ⟨m, by omega, by rw [rd1, e, rd12_end hs]⟩
theorem S1.up {T : List UInt8} {x : List Nd} {c : Nat} (h : S1 T x c) : S0 T x (c + 2) := by
  intro n hn s h1 h2 h3
  obtain ⟨m, rfl, hm⟩ := suc hn
  obtain ⟨k, hk, e⟩ := h m (by omega) s h1
  obtain ⟨j, rfl, _⟩ := suc (show 0 + 1 ≤ k by omega)
  rw [rd0, e, rd11_end h2]
  simp only [h3, if_false]
theorem S0.par {T : List UInt8} {x : List Nd} {c : Nat} (h : S0 T x c) : S3 (40 :: (T ++ [41])) x (c + 1) := by
  intro n hn s
  obtain ⟨m, rfl, hm⟩ := suc hn
  have e : 40 :: (T ++ [41]) ++ s = 40 :: (T ++ 41 :: s) := by simp
  rw [e, rd3_par, h m hm _ (by simp) (by simp) (by simp)]
  rfl
theorem S3.not {T : List UInt8} {x : List Nd} {c : Nat} (h : S3 T x c) : S3 (126 :: T) ((4, 0) :: (x ++ [(1, 0)])) (c + 1) := by
  intro n hn s
  obtain ⟨m, rfl, hm⟩ := suc hn
  rw [List.cons_append, rd3_not, h m hm]
theorem S3.box {T : List UInt8} {x : List Nd} {c : Nat} (h : S3 T x c) : S3 (91 :: 93 :: T) ((5, 0) :: x) (c + 1) := by
  intro n hn s
  obtain ⟨m, rfl, hm⟩ := suc hn
  rw [List.cons_append, List.cons_append, rd3_box, h m hm]
theorem S3.dia {T : List UInt8} {x : List Nd} {c : Nat} (h : S3 T x c) : S3 (60 :: 62 :: T) ((6, 0) :: x) (c + 1) := by
  intro n hn s
  obtain ⟨m, rfl, hm⟩ := suc hn
  rw [List.cons_append, List.cons_append, rd3_dia, h m hm]
theorem S2.conj {T U : List UInt8} {x y : List Nd} {c d : Nat} (h : S2 T x c) (k : S3 U y d) : S2 (T ++ 38 :: U) ((2, 0) :: (x ++ y)) (c + d + 1) := by
  intro n hn s
  obtain ⟨m, hm, e⟩ := h n (by omega) (38 :: (U ++ s))
  obtain ⟨j, rfl, hj⟩ := suc (show d + 1 ≤ m by omega)
  refine ⟨j, by omega, ?_⟩
  rw [List.append_assoc, List.cons_append, e, rd12_and, k j hj]
theorem S1.disj {T U : List UInt8} {x y : List Nd} {c d : Nat} (h : S1 T x c) (k : S2 U y d) : S1 (T ++ 124 :: U) ((3, 0) :: (x ++ y)) (c + d + 2) := by
  intro n hn s hs
  obtain ⟨m, hm, e⟩ := h n (by omega) (124 :: (U ++ s)) (by simp)
  obtain ⟨j, rfl, hj⟩ := suc (show d + 1 + 1 ≤ m by omega)
  refine ⟨j, by omega, ?_⟩
  obtain ⟨i, hi, e2⟩ := k j (by omega) s
  obtain ⟨q, rfl, _⟩ := suc (show 0 + 1 ≤ i by omega)
  rw [List.append_assoc, List.cons_append, e, rd11_or, e2, rd12_end hs]
theorem S1.imp {T U : List UInt8} {x y : List Nd} {c d : Nat} (h : S1 T x c) (k : S0 U y d) : S0 (T ++ 62 :: U) ((4, 0) :: (x ++ y)) (c + d + 2) := by
  intro n hn s h1 h2 h3
  obtain ⟨m, rfl, hm⟩ := suc hn
  obtain ⟨j, hj, e⟩ := h m (by omega) (62 :: (U ++ s)) (by simp)
  obtain ⟨i, rfl, _⟩ := suc (show 0 + 1 ≤ j by omega)
  have e3 := k m (by omega) s h1 h2 h3
  rw [List.append_assoc, List.cons_append, rd0, e, rd11_end (by simp)]
  simp [e3]

/-- A text's bytes. -/
def by4 (s : ByteArray) : List UInt8 := s.data.toList
theorem by4_one (c : UInt8) (l : List UInt8) : by4 (ByteArray.mk #[c]) ++ l = c :: l := rfl
theorem by4_append (s t : ByteArray) : by4 (s ++ t) = by4 s ++ by4 t := by simp [by4]
theorem by4_mk (a : Array UInt8) : by4 (ByteArray.mk a) = a.toList := rfl
theorem by4_inj {s t : ByteArray} (h : by4 s = by4 t) : s = t := by
  cases s; cases t
  unfold by4 at h
  congr 1
  exact Array.toList_inj.1 h

def All4 (t : Tr) (x : List Nd) : Prop := (∃ c, S3 (by4 (txt t 3)) x c) ∧ (∃ c, S2 (by4 (txt t 2)) x c) ∧ (∃ c, S1 (by4 (txt t 1)) x c) ∧ (∃ c, S0 (by4 (txt t 0)) x c)

theorem by4_out {t : Tr} {lev : Int} (h : ownT t < lev) : by4 (txt t lev) = 40 :: (by4 (txtB t) ++ [41]) := by
  rw [txt_out h, by4_append, by4_append, by4_mk, by4_mk]; rfl
theorem by4_in {t : Tr} {lev : Int} (h : ¬ ownT t < lev) : by4 (txt t lev) = by4 (txtB t) := by rw [txt_in h]

theorem all4_3 {t : Tr} {x : List Nd} {c : Nat} (ho : ownT t = 3) (h : S3 (by4 (txtB t)) x c) : All4 t x := by
  refine ⟨⟨c, ?_⟩, ⟨c + 1, ?_⟩, ⟨c + 1 + 2, ?_⟩, ⟨c + 1 + 2 + 2, ?_⟩⟩ <;> rw [by4_in (by omega)]
  · exact h
  · exact h.up
  · exact h.up.up
  · exact h.up.up.up
theorem all4_2 {t : Tr} {x : List Nd} {c : Nat} (ho : ownT t = 2) (h : S2 (by4 (txtB t)) x c) : All4 t x := by
  refine ⟨⟨c + 2 + 2 + 1, ?_⟩, ⟨c, ?_⟩, ⟨c + 2, ?_⟩, ⟨c + 2 + 2, ?_⟩⟩
  · rw [by4_out (by omega)]; exact h.up.up.par
  · rw [by4_in (by omega)]; exact h
  · rw [by4_in (by omega)]; exact h.up
  · rw [by4_in (by omega)]; exact h.up.up
theorem all4_1 {t : Tr} {x : List Nd} {c : Nat} (ho : ownT t = 1) (h : S1 (by4 (txtB t)) x c) : All4 t x := by
  refine ⟨⟨c + 2 + 1, ?_⟩, ⟨c + 2 + 1 + 1, ?_⟩, ⟨c, ?_⟩, ⟨c + 2, ?_⟩⟩
  · rw [by4_out (by omega)]; exact h.up.par
  · rw [by4_out (by omega)]; exact h.up.par.up
  · rw [by4_in (by omega)]; exact h
  · rw [by4_in (by omega)]; exact h.up
theorem all4_0 {t : Tr} {x : List Nd} {c : Nat} (ho : ownT t = 0) (h : S0 (by4 (txtB t)) x c) : All4 t x := by
  refine ⟨⟨c + 1, ?_⟩, ⟨c + 1 + 1, ?_⟩, ⟨c + 1 + 1 + 2, ?_⟩, ⟨c, ?_⟩⟩
  · rw [by4_out (by omega)]; exact h.par
  · rw [by4_out (by omega)]; exact h.par.up
  · rw [by4_out (by omega)]; exact h.par.up.up
  · rw [by4_in (by omega)]; exact h

theorem fals_one {t : Tr} (ht : okT t) (hg : goodT t) (hf : falsT t = true) : flat t = [(1, 0)] := by
  cases t with
  | nil => exact ht.elim
  | node b o n l r =>
    obtain ⟨x, y⟩ := n
    have hx : x = 1 := by simpa [falsT] using hf
    subst hx
    rcases good_cases ht hg with ⟨h, _⟩ | ⟨_, rfl, rfl, rfl⟩ | ⟨h, _⟩ | ⟨h, _⟩
    · omega
    · simp [flat]
    · omega
    · omega

theorem letter_read (y : Int) (h0 : 0 ≤ y) (h5 : y ≤ 5) : S3 (by4 (letter y)) [(0, y)] 1 := by
  intro n hn s
  obtain ⟨m, rfl, _⟩ := suc (show 0 + 1 ≤ n by omega)
  have : y = 0 ∨ y = 1 ∨ y = 2 ∨ y = 3 ∨ y = 4 ∨ y = 5 := by omega
  rcases this with rfl | rfl | rfl | rfl | rfl | rfl
  · have e : by4 (letter 0) = [112] := by decide
    rw [e]; simp [rd]
  · have e : by4 (letter 1) = [113] := by decide
    rw [e]; simp [rd]
  · have e : by4 (letter 2) = [114] := by decide
    rw [e]; simp [rd]
  · have e : by4 (letter 3) = [115] := by decide
    rw [e]; simp [rd]
  · have e : by4 (letter 4) = [116] := by decide
    rw [e]; simp [rd]
  · have e : by4 (letter 5) = [117] := by decide
    rw [e]; simp [rd]

theorem all4 (t : Tr) (ht : okT t) (hg : goodT t) : All4 t (flat t) := by
  induction t with
  | nil => exact ht.elim
  | node b o n l r ihl ihr =>
    obtain ⟨x, y⟩ := n
    rcases good_cases ht hg with ⟨rfl, rfl, rfl, y0, y5⟩ | ⟨rfl, rfl, rfl, rfl⟩ | ⟨hx, rfl, h2, h3⟩ | ⟨hx, rfl, h2, rfl⟩
    · refine all4_3 (c := 1) (by simp [ownT]) ?_
      rw [txtB_var]
      simpa [flat] using letter_read y y0 y5
    · refine all4_3 (c := 1) (by simp [ownT]) ?_
      rw [txtB_false, by4_mk]
      intro n hn s
      obtain ⟨m, rfl, _⟩ := suc (show 0 + 1 ≤ n by omega)
      simp [rd, flat]
    · obtain ⟨⟨c3, l3⟩, ⟨c2, l2⟩, ⟨c1, l1⟩, ⟨c0, l0⟩⟩ := ihl h2 (goodT_left hg)
      obtain ⟨⟨d3, r3⟩, ⟨d2, r2⟩, ⟨d1, r1⟩, ⟨d0, r0⟩⟩ := ihr h3 (goodT_right hg)
      rcases hx with rfl | rfl | rfl
      · refine all4_2 (c := c2 + d3 + 1) (by simp [ownT]) ?_
        rw [txtB_and, by4_append, by4_append, List.append_assoc, by4_one]
        exact l2.conj r3
      · refine all4_1 (c := c1 + d2 + 2) (by simp [ownT]) ?_
        rw [txtB_or, by4_append, by4_append, List.append_assoc, by4_one]
        exact l1.disj r2
      · cases hr : falsT r with
        | false =>
          refine all4_0 (c := c1 + d0 + 2) (by simp [ownT, hr]) ?_
          rw [txtB_imp hr, by4_append, by4_append, List.append_assoc, by4_one]
          exact l1.imp r0
        | true =>
          have fr := fals_one h3 (goodT_right hg) hr
          cases hl : falsT l with
          | true =>
            have fl := fals_one h2 (goodT_left hg) hl
            refine all4_3 (c := 1) (by simp [ownT, hr]) ?_
            rw [txtB_true hr hl, by4_mk]
            intro n hn s
            obtain ⟨m, rfl, _⟩ := suc (show 0 + 1 ≤ n by omega)
            simp [rd, flat, fl, fr]
          | false =>
            refine all4_3 (c := c3 + 1) (by simp [ownT, hr]) ?_
            rw [txtB_not hr hl, by4_append, by4_mk]
            have := l3.not
            simpa [flat, fr] using this
    · obtain ⟨⟨c3, l3⟩, _⟩ := ihl h2 (goodT_left hg)
      rcases hx with rfl | rfl
      · refine all4_3 (c := c3 + 1) (by simp [ownT]) ?_
        rw [txtB_box, by4_append, by4_mk]
        simpa [flat] using l3.box
      · refine all4_3 (c := c3 + 1) (by simp [ownT]) ?_
        rw [txtB_dia, by4_append, by4_mk]
        simpa [flat] using l3.dia

/-- Formulas of one text are one formula. -/
theorem text_tells {a b : List Nd} (ha : formB a = true) (hb : formB b = true) (h : txtB (treeOf a) = txtB (treeOf b)) : a = b := by
  obtain ⟨ta, fa, ga, _⟩ := good_tree ha
  obtain ⟨tb, fb, gb, _⟩ := good_tree hb
  obtain ⟨_, _, _, ⟨c, hc⟩⟩ := all4 _ ta ga
  obtain ⟨_, _, _, ⟨d, hd⟩⟩ := all4 _ tb gb
  have h1 := hc (c + d) (by omega) [] (by simp) (by simp) (by simp)
  have h2 := hd (c + d) (by omega) [] (by simp) (by simp) (by simp)
  rw [txt_zero] at h1 h2
  rw [h, h2, fa, fb] at h1
  have := Option.some.inj h1
  exact (congrArg Prod.fst this).symm
end Go.Proofs.Ytdpnkojchimmfaa
