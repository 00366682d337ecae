/- Plain theory: the closure of clauses under resolution; numbers for clauses. No program is named here. -/
import Derived.Test.YtmhkcicjbgifnaaGreatMMaskOfM

namespace Go.Proofs.YtmhkcicjbgifnaaGreat
open Go.RowKit Go.Lib
set_option linter.unusedVariables false

theorem clause_strict {c : List Int} (h : clauseB c = true) : c.Pairwise fun x y => x < y := by
  rw [List.pairwise_iff_getElem]
  intro i j hi hj hij
  have := clause_half h j i _ _ hij (List.getElem?_eq_getElem hi) (List.getElem?_eq_getElem hj)
  omega
theorem clause_ext {c d : List Int} (hc : clauseB c = true) (hd : clauseB d = true) (h : ∀ x, x ∈ c ↔ x ∈ d) : c = d := strict_unique lo_int _ _ (clause_strict hc) (clause_strict hd) h

/-! A clause's key: the mask of its literals. -/
theorem or_pow_bit (m x i : Nat) : (m ||| 2 ^ x).testBit i = (m.testBit i || decide (x = i)) := by
  rw [Nat.testBit_or, Nat.testBit_two_pow]
theorem orBits_bit_from (xs : List Int) (m i : Nat) : (xs.foldl (fun acc x => acc ||| 2 ^ x.toNat) m).testBit i = (m.testBit i || xs.any fun x => decide (x.toNat = i)) := by
  induction xs generalizing m with
  | nil => simp
  | cons a xs ih => rw [List.foldl_cons, ih, or_pow_bit, List.any_cons, Bool.or_assoc]
theorem orBits_bit (xs : List Int) (i : Nat) : (orBits xs).testBit i = xs.any fun x => decide (x.toNat = i) := by
  unfold orBits
  rw [orBits_bit_from]
  simp
theorem orBits_lt_from (n : Nat) (xs : List Int) (m : Nat) (hm : m < 2 ^ n) (h : ∀ x ∈ xs, x.toNat < n) : xs.foldl (fun acc x => acc ||| 2 ^ x.toNat) m < 2 ^ n := by
  induction xs generalizing m with
  | nil => exact hm
  | cons a xs ih =>
    rw [List.foldl_cons]
    exact ih _ (Nat.or_lt_two_pow hm (Nat.pow_lt_pow_right (by omega) (h a List.mem_cons_self))) fun x hx => h x (List.mem_cons_of_mem _ hx)
theorem key_lt {c : List Int} (h : clauseB c = true) : orBits c < 4096 := by
  have := orBits_lt_from 12 c 0 (by decide) (fun x hx => by have := clause_in h hx; omega)
  exact this
theorem key_inj {c d : List Int} (hc : clauseB c = true) (hd : clauseB d = true) (h : orBits c = orBits d) : c = d := by
  have key : ∀ {a b : List Int}, clauseB a = true → clauseB b = true → orBits a = orBits b → ∀ x, x ∈ a → x ∈ b := by
    intro a b ha hb hab x hx
    have h1 : (orBits a).testBit x.toNat = true := by rw [orBits_bit, List.any_eq_true]; exact ⟨x, hx, by simp⟩
    rw [hab, orBits_bit, List.any_eq_true] at h1
    obtain ⟨y, hy, he⟩ := h1
    have h2 := clause_in ha hx
    have h3 := clause_in hb hy
    have : y = x := by
      have : y.toNat = x.toNat := by simpa using he
      omega
    exact this ▸ hy
  exact clause_ext hc hd fun x => ⟨key hc hd h x, key hd hc h.symm x⟩

/-! A clause's number in base three. -/
def digit3 (c : List Int) (v : Nat) : Nat := (if decide (2 * (v : Int) ∈ c) then 1 else 0) + (if decide (2 * (v : Int) + 1 ∈ c) then 2 else 0)
def code3 (c : List Int) : Nat → Nat
  | 0 => 0
  | k + 1 => code3 c k * 3 + digit3 c k
theorem digit3_le {c : List Int} (h : clauseB c = true) (v : Nat) : digit3 c v ≤ 2 := by
  unfold digit3
  by_cases h1 : 2 * (v : Int) ∈ c <;> by_cases h2 : 2 * (v : Int) + 1 ∈ c <;> simp [h1, h2]
  have := clause_same h h1 h2 (by omega)
  omega
theorem code3_lt {c : List Int} (h : clauseB c = true) : code3 c 6 < 729 := by
  have h0 := digit3_le h 0
  have h1 := digit3_le h 1
  have h2 := digit3_le h 2
  have h3 := digit3_le h 3
  have h4 := digit3_le h 4
  have h5 := digit3_le h 5
  simp only [code3]
  omega
theorem digit3_mem {c d : List Int} (hc : clauseB c = true) (hd : clauseB d = true) {v : Nat} (h : digit3 c v = digit3 d v) : (2 * (v : Int) ∈ c → 2 * (v : Int) ∈ d) ∧ (2 * (v : Int) + 1 ∈ c → 2 * (v : Int) + 1 ∈ d) := by
  have h1 := digit3_le hc v
  have h2 := digit3_le hd v
  unfold digit3 at h h1 h2
  by_cases a : 2 * (v : Int) ∈ c <;> by_cases b : 2 * (v : Int) + 1 ∈ c <;> by_cases a' : 2 * (v : Int) ∈ d <;> by_cases b' : 2 * (v : Int) + 1 ∈ d <;> simp [a, b, a', b'] at h h1 h2 ⊢
theorem code3_inj {c d : List Int} (hc : clauseB c = true) (hd : clauseB d = true) (h : code3 c 6 = code3 d 6) : c = d := by
  have hd3 : ∀ v, v < 6 → digit3 c v = digit3 d v := by
    have c0 := digit3_le hc 0
    have c1 := digit3_le hc 1
    have c2 := digit3_le hc 2
    have c3 := digit3_le hc 3
    have c4 := digit3_le hc 4
    have c5 := digit3_le hc 5
    have d0 := digit3_le hd 0
    have d1 := digit3_le hd 1
    have d2 := digit3_le hd 2
    have d3 := digit3_le hd 3
    have d4 := digit3_le hd 4
    have d5 := digit3_le hd 5
    simp only [code3] at h
    intro v hv
    have : v = 0 ∨ v = 1 ∨ v = 2 ∨ v = 3 ∨ v = 4 ∨ v = 5 := by omega
    rcases this with rfl | rfl | rfl | rfl | rfl | rfl <;> omega
  have key : ∀ {a b : List Int}, clauseB a = true → clauseB b = true → (∀ v, v < 6 → digit3 a v = digit3 b v) → ∀ x, x ∈ a → x ∈ b := by
    intro a b ha hb hab x hx
    have h1 := clause_in ha hx
    obtain ⟨v, hv, hx2⟩ : ∃ v : Nat, v < 6 ∧ (x = 2 * (v : Int) ∨ x = 2 * (v : Int) + 1) := ⟨(x / 2).toNat, by omega, by omega⟩
    have h2 := digit3_mem ha hb (hab v hv)
    rcases hx2 with rfl | rfl
    · exact h2.1 hx
    · exact h2.2 hx
  exact clause_ext hc hd fun x => ⟨key hc hd hd3 x, key hd hc (fun v hv => (hd3 v hv).symm) x⟩

/-! The closure. -/
inductive Clo (Is : List (List Int)) : List Int → Prop
  | base {I : List Int} : I ∈ Is → Clo Is I
  | res {c d r : List Int} : Clo Is c → Clo Is d → r ∈ rvL c d 6 → Clo Is r
theorem Clo.clause {Is : List (List Int)} (h : ∀ I ∈ Is, clauseB I = true) {x : List Int} (hx : Clo Is x) : clauseB x = true := by
  induction hx with
  | base hI => exact h _ hI
  | res _ _ hr _ _ => exact (rvL_mem hr).1
theorem rvL_self {c : List Int} (h : clauseB c = true) (k : Nat) : rvL c c k = [] := by
  unfold rvL
  rw [List.map_eq_nil_iff, List.filter_eq_nil_iff]
  intro v _
  unfold resOk
  intro hv
  simp only [Bool.and_eq_true, decide_eq_true_eq] at hv
  have := clause_same h hv.1.1 hv.1.2 (by omega)
  omega
/-- Where the program's and the reference's loops stand: the clauses so far, the pairs that have been resolved. -/
structure CloSt (Is L : List (List Int)) (j i : Nat) : Prop where
  nd : L.Nodup
  start : ∀ I ∈ Is, I ∈ L
  sound : ∀ x ∈ L, Clo Is x
  pairs : ∀ (a b : Nat) (c d : List Int), L[a]? = some c → L[b]? = some d → a < b → (b < j ∨ (b = j ∧ a < i)) → (∀ r ∈ rvL c d 6, r ∈ L) ∧ (∀ r ∈ rvL d c 6, r ∈ L)
theorem CloSt.begin {Is L : List (List Int)} (hn : L.Nodup) (h : ∀ x, x ∈ L ↔ x ∈ Is) : CloSt Is L 0 0 := ⟨hn, fun I hI => (h I).2 hI, fun x hx => .base ((h x).1 hx), fun a b c d _ _ hab hb => by omega⟩
theorem CloSt.add {Is L : List (List Int)} {j i : Nat} {r : List Int} (h : CloSt Is L j i) (hj : j < L.length) (hr : r ∉ L) (hc : Clo Is r) : CloSt Is (L ++ [r]) j i := by
  refine ⟨?_, fun I hI => List.mem_append_left _ (h.start I hI), fun x hx => ?_, fun a b c d ha hb hab hbj => ?_⟩
  · rw [List.nodup_append]
    refine ⟨h.nd, by simp, fun x hx y hy e => ?_⟩
    obtain rfl : y = r := by simpa using hy
    exact hr (e ▸ hx)
  · rcases List.mem_append.1 hx with hx | hx
    · exact h.sound x hx
    · obtain rfl : x = r := by simpa using hx
      exact hc
  · rw [List.getElem?_append_left (by omega)] at ha hb
    obtain ⟨h1, h2⟩ := h.pairs a b c d ha hb hab hbj
    exact ⟨fun r hr => List.mem_append_left _ (h1 r hr), fun r hr => List.mem_append_left _ (h2 r hr)⟩
theorem CloSt.step {Is L : List (List Int)} {j i : Nat} {c d : List Int} (h : CloSt Is L j i) (hc : L[i]? = some c) (hd : L[j]? = some d) (h1 : ∀ r ∈ rvL c d 6, r ∈ L) (h2 : ∀ r ∈ rvL d c 6, r ∈ L) : CloSt Is L j (i + 1) := by
  refine ⟨h.nd, h.start, h.sound, fun a b c' d' ha hb hab hbj => ?_⟩
  by_cases e : b = j ∧ a = i
  · obtain ⟨rfl, rfl⟩ := e
    rw [hc] at ha
    rw [hd] at hb
    obtain rfl := Option.some.inj ha
    obtain rfl := Option.some.inj hb
    exact ⟨h1, h2⟩
  · exact h.pairs a b c' d' ha hb hab (by omega)
theorem CloSt.next {Is L : List (List Int)} {j : Nat} (h : CloSt Is L j j) : CloSt Is L (j + 1) 0 := ⟨h.nd, h.start, h.sound, fun a b c d ha hb hab hbj => h.pairs a b c d ha hb hab (by omega)⟩
theorem CloSt.done {Is L : List (List Int)} (hI : ∀ I ∈ Is, clauseB I = true) {j : Nat} (hj : L.length ≤ j) (h : CloSt Is L j 0) (x : List Int) : x ∈ L ↔ Clo Is x := by
  refine ⟨h.sound x, fun hx => ?_⟩
  induction hx with
  | base hi => exact h.start _ hi
  | @res c d r hc hd hr ihc ihd =>
    obtain ⟨a, ha⟩ := List.getElem?_of_mem ihc
    obtain ⟨b, hb⟩ := List.getElem?_of_mem ihd
    have la := (List.getElem?_eq_some_iff.1 ha).1
    have lb := (List.getElem?_eq_some_iff.1 hb).1
    rcases Nat.lt_trichotomy a b with hab | hab | hab
    · exact (h.pairs a b c d ha hb hab (by omega)).1 r hr
    · subst hab
      rw [ha] at hb
      obtain rfl := Option.some.inj hb
      rw [rvL_self (hc.clause hI)] at hr
      cases hr
    · exact (h.pairs b a d c hb ha hab (by omega)).2 r hr
theorem CloSt.clauses {Is L : List (List Int)} {j i : Nat} (h : CloSt Is L j i) (hI : ∀ I ∈ Is, clauseB I = true) {x : List Int} (hx : x ∈ L) : clauseB x = true := (h.sound x hx).clause hI
theorem clauses_len {L : List (List Int)} (hn : L.Nodup) (hc : ∀ x ∈ L, clauseB x = true) : L.length ≤ 4096 := by
  have h := nodup_len 4096 (L.map orBits) ?_ ?_
  · simpa using h
  · unfold List.Nodup at hn ⊢
    rw [List.pairwise_map]
    exact hn.imp_of_mem fun {a b} ha hb hne e => hne (key_inj (hc a ha) (hc b hb) e)
  · intro x hx
    obtain ⟨c, hc', rfl⟩ := List.mem_map.1 hx
    exact key_lt (hc c hc')
theorem CloSt.len {Is L : List (List Int)} {j i : Nat} (h : CloSt Is L j i) (hI : ∀ I ∈ Is, clauseB I = true) : L.length ≤ 4096 := clauses_len h.nd fun x hx => h.clauses hI hx

/-- The answer: the closure in strict order. -/
def isClo (Is R : List (List Int)) : Prop := R.Pairwise ltI ∧ ∀ x, x ∈ R ↔ Clo Is x
theorem isClo_one {Is R S : List (List Int)} (hR : isClo Is R) (hS : isClo Is S) : R = S := strict_unique lo_lists _ _ hR.1 hS.1 fun x => (hR.2 x).trans (hS.2 x).symm
theorem allU_clo {Is L R : List (List Int)} (hR : isClo Is R) (hL : ∀ x, x ∈ L ↔ Clo Is x) : allU ltI L = R := by
  obtain ⟨h1, h2⟩ := allU_fold lo_lists L [] List.Pairwise.nil
  refine strict_unique lo_lists _ _ h1 hR.1 fun x => ?_
  show x ∈ L.foldl (insU ltI) [] ↔ _
  rw [h2, hR.2, hL]
  simp
theorem isClo_clause {Is R : List (List Int)} (hI : ∀ I ∈ Is, clauseB I = true) (hR : isClo Is R) {x : List Int} (hx : x ∈ R) : clauseB x = true := ((hR.2 x).1 hx).clause hI
theorem isClo_len {Is R : List (List Int)} (hI : ∀ I ∈ Is, clauseB I = true) (hR : isClo Is R) : R.length ≤ 4096 := clauses_len (show R.Nodup from List.Pairwise.imp (fun {a b} (h : ltI a b) => show a ≠ b from fun e => lo_lists.irr b (by rw [e] at h; exact h)) hR.1) fun x hx => isClo_clause hI hR hx
/-- All part lists of a list. -/
def partsI : List Int → List (List Int)
  | [] => [[]]
  | a :: l => partsI l ++ (partsI l).map (a :: ·)
theorem partsI_mem : ∀ (l xs : List Int), l.Pairwise (fun x y => x < y) → xs.Pairwise (fun x y => x < y) → (∀ x ∈ xs, x ∈ l) → xs ∈ partsI l
  | [], xs, _, _, h => by
    cases xs with
    | nil => simp [partsI]
    | cons x xs => exact absurd (h x List.mem_cons_self) List.not_mem_nil
  | a :: l, xs, hl, hx, h => by
    rw [List.pairwise_cons] at hl
    unfold partsI
    rw [List.mem_append, List.mem_map]
    cases xs with
    | nil => exact .inl (partsI_mem l [] hl.2 hx (fun x hx => absurd hx List.not_mem_nil))
    | cons x xs =>
      rw [List.pairwise_cons] at hx
      by_cases e : x = a
      · subst e
        refine .inr ⟨xs, partsI_mem l xs hl.2 hx.2 (fun y hy => ?_), rfl⟩
        rcases List.mem_cons.1 (h y (List.mem_cons_of_mem _ hy)) with e | hy2
        · have := hx.1 y hy; omega
        · exact hy2
      · refine .inl (partsI_mem l (x :: xs) hl.2 (List.pairwise_cons.2 hx) (fun y hy => ?_))
        have hxl : x ∈ l := by
          rcases List.mem_cons.1 (h x List.mem_cons_self) with e2 | h2
          · exact absurd e2 e
          · exact h2
        rcases List.mem_cons.1 (h y hy) with e2 | h2
        · subst e2
          have h3 := hl.1 x hxl
          rcases List.mem_cons.1 hy with e4 | h4
          · exact absurd e4.symm e
          · have := hx.1 y h4; omega
        · exact h2
theorem lits_strict : lits12.Pairwise fun x y => x < y := by
  unfold lits12
  rw [List.pairwise_map]
  exact List.pairwise_lt_range.imp fun h => by omega
theorem clause_part {c : List Int} (h : clauseB c = true) : c ∈ partsI lits12 := partsI_mem _ _ lits_strict (clause_strict h) fun x hx => lits_mem.2 (clause_in h hx)
theorem clo_ex {Is : List (List Int)} (hI : ∀ I ∈ Is, clauseB I = true) : ∃ R, isClo Is R := by
  classical
  refine ⟨allU ltI ((partsI lits12).filter fun c => decide (Clo Is c)), ?_, fun x => ?_⟩
  · exact (allU_fold lo_lists _ [] List.Pairwise.nil).1
  · show x ∈ List.foldl (insU ltI) [] _ ↔ _
    rw [(allU_fold lo_lists _ [] List.Pairwise.nil).2, List.mem_filter, decide_eq_true_eq]
    constructor
    · rintro (h | h)
      · exact absurd h List.not_mem_nil
      · exact h.2
    · exact fun h => .inr ⟨clause_part (h.clause hI), h⟩
end Go.Proofs.YtmhkcicjbgifnaaGreat
