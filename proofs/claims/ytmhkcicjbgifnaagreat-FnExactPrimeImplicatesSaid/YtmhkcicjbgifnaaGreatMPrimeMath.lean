/- Plain theory: terms and clauses in a row of a table; prime implicants and prime implicates. No program is named here. -/
import Derived.Test.YtmhkcicjbgifnaaGreatMClo

namespace Go.Proofs.YtmhkcicjbgifnaaGreat
open Go.RowKit Go.Lib
set_option linter.unusedVariables false
set_option linter.unusedSimpArgs false

def litB (l : Int) (r : Nat) : Bool := r.testBit (l / 2).toNat == decide (l % 2 = 0)
def termB (T : List Int) (r : Nat) : Bool := T.all fun l => litB l r
def someB (T : List Int) (r : Nat) : Bool := T.any fun l => litB l r
def impB (p : Nat → Bool) (T : List Int) : Bool := (List.range 64).all fun r => p r || !termB T r
def clsB (p : Nat → Bool) (T : List Int) : Bool := (List.range 64).all fun r => !p r || someB T r
/-- Good clauses of which no smaller one is good. -/
def isPr (G : List Int → Bool) (T : List Int) : Prop := clauseB T = true ∧ G T = true ∧ ∀ S, clauseB S = true → (∀ x ∈ S, x ∈ T) → G S = true → S = T
def isAns (G : List Int → Bool) (R : List (List Int)) : Prop := R.Pairwise ltI ∧ ∀ x, x ∈ R ↔ isPr G x
theorem isAns_one {G : List Int → Bool} {R S : List (List Int)} (hR : isAns G R) (hS : isAns G S) : R = S := strict_unique lo_lists _ _ hR.1 hS.1 fun x => (hR.2 x).trans (hS.2 x).symm
theorem ans_ex (G : List Int → Bool) : ∃ R, isAns G R := by
  classical
  refine ⟨allU ltI ((partsI lits12).filter fun c => decide (isPr G c)), ?_, fun x => ?_⟩
  · exact (allU_fold lo_lists _ [] List.Pairwise.nil).1
  · show x ∈ List.foldl (insU ltI) [] _ ↔ _
    rw [(allU_fold lo_lists _ [] List.Pairwise.nil).2, List.mem_filter, decide_eq_true_eq]
    constructor
    · rintro (h | h)
      · exact absurd h List.not_mem_nil
      · exact h.2
    · exact fun h => .inr ⟨clause_part h.1, h⟩
theorem allU_ans {G : List Int → Bool} {L R : List (List Int)} (hR : isAns G R) (hL : ∀ x, x ∈ L ↔ isPr G x) : allU ltI L = R := by
  obtain ⟨h1, h2⟩ := allU_fold lo_lists L [] List.Pairwise.nil
  refine strict_unique lo_lists _ _ h1 hR.1 fun x => ?_
  show x ∈ L.foldl (insU ltI) [] ↔ _
  rw [h2, hR.2, hL]
  simp
theorem isAns_len {G : List Int → Bool} {R : List (List Int)} (hR : isAns G R) : R.length ≤ 4096 := clauses_len (show R.Nodup from List.Pairwise.imp (fun {a b} (h : ltI a b) => show a ≠ b from fun e => lo_lists.irr b (by rw [e] at h; exact h)) hR.1) fun x hx => ((hR.2 x).1 hx).1

/-! Clauses. -/
theorem clause_pw {xs : List Int} : clauseB xs = true ↔ (∀ x ∈ xs, 0 ≤ x ∧ x ≤ 11) ∧ xs.Pairwise fun x y => x / 2 < y / 2 := by
  constructor
  · intro h
    refine ⟨fun x hx => clause_in h hx, ?_⟩
    rw [List.pairwise_iff_getElem]
    intro i j hi hj hij
    exact clause_half h j i _ _ hij (List.getElem?_eq_getElem hi) (List.getElem?_eq_getElem hj)
  · rintro ⟨h1, h2⟩
    refine clause_yes fun i hi => ?_
    have hr : ∀ {k : Nat} {x : Int}, xs[k]? = some x → inR x 0 11 = true := fun {k x} hk => by
      have := h1 x (List.mem_of_getElem? hk)
      simp [inR]
      omega
    cases i with
    | zero => rw [okAt_zero (List.getElem?_eq_getElem hi)]; exact hr (List.getElem?_eq_getElem hi)
    | succ j =>
      rw [okAt_succ (List.getElem?_eq_getElem hi) (List.getElem?_eq_getElem (by omega)), hr (List.getElem?_eq_getElem hi)]
      rw [List.pairwise_iff_getElem] at h2
      simpa using h2 j (j + 1) (by omega) hi (by omega)
theorem clause_sub {S T : List Int} (hs : S.Sublist T) (h : clauseB T = true) : clauseB S = true := by
  rw [clause_pw] at h ⊢
  exact ⟨fun x hx => h.1 x (hs.subset hx), h.2.sublist hs⟩
theorem clause_nil : clauseB [] = true := by rw [clause_pw]; simp
theorem clause_snoc {c : List Int} {l : Int} : clauseB (c ++ [l]) = true ↔ clauseB c = true ∧ 0 ≤ l ∧ l ≤ 11 ∧ ∀ y, c.getLast? = some y → y / 2 < l / 2 := by
  constructor
  · intro h
    have h1 := clause_sub (List.sublist_append_left c [l]) h
    rw [clause_pw] at h
    refine ⟨h1, (h.1 l (by simp)).1, (h.1 l (by simp)).2, fun y hy => ?_⟩
    rw [List.pairwise_append] at h
    exact h.2.2.2 y (List.mem_of_getLast? hy) l (by simp)
  · rintro ⟨h1, h2, h3, h4⟩
    have h5 := h1
    rw [clause_pw] at h1 ⊢
    refine ⟨fun x hx => ?_, ?_⟩
    · rcases List.mem_append.1 hx with hx | hx
      · exact h1.1 x hx
      · obtain rfl : x = l := by simpa using hx
        exact ⟨h2, h3⟩
    · rw [List.pairwise_append]
      refine ⟨h1.2, by simp, fun a ha b hb => ?_⟩
      obtain rfl : b = l := by simpa using hb
      rcases List.eq_nil_or_concat c with rfl | ⟨d, y, rfl⟩
      · exact absurd ha List.not_mem_nil
      · have h6 := h4 y (by simp)
        have h7 := h1.2
        rw [List.concat_eq_append, List.pairwise_append] at h7
        rw [List.concat_eq_append] at ha
        rcases List.mem_append.1 ha with ha | ha
        · have := h7.2.2 a ha y (by simp); omega
        · obtain rfl : a = y := by simpa using ha
          exact h6
/-- A smaller clause is a part. -/
theorem clause_filter {S T : List Int} (hS : clauseB S = true) (hT : clauseB T = true) (h : ∀ x ∈ S, x ∈ T) : T.filter (fun x => decide (x ∈ S)) = S := by
  refine strict_unique lo_int _ _ ((clause_strict hT).filter _) (clause_strict hS) fun x => ?_
  rw [List.mem_filter, decide_eq_true_eq]
  exact ⟨fun h => h.2, fun hx => ⟨h x hx, hx⟩⟩
theorem clause_part_sub {S T : List Int} (hS : clauseB S = true) (hT : clauseB T = true) (h : ∀ x ∈ S, x ∈ T) : S.Sublist T := by
  have := List.filter_sublist (p := fun x => decide (x ∈ S)) (l := T)
  rwa [clause_filter hS hT h] at this
theorem clause_less {S T : List Int} (hS : clauseB S = true) (hT : clauseB T = true) (h : ∀ x ∈ S, x ∈ T) (hne : S ≠ T) : S.length < T.length := by
  have h1 := clause_part_sub hS hT h
  rcases Nat.lt_or_ge S.length T.length with h2 | h2
  · exact h2
  · exact absurd (h1.eq_of_length (Nat.le_antisymm h1.length_le h2)) hne
theorem pr_below (G : List Int → Bool) : ∀ (n : Nat) (S : List Int), S.length ≤ n → clauseB S = true → G S = true → ∃ S', isPr G S' ∧ ∀ x ∈ S', x ∈ S
  | 0, S, hn, hc, hg => by
    obtain rfl : S = [] := List.length_eq_zero_iff.1 (by omega)
    exact ⟨[], ⟨hc, hg, fun S _ h _ => by cases S with | nil => rfl | cons a S => exact absurd (h a List.mem_cons_self) List.not_mem_nil⟩, fun x hx => hx⟩
  | n + 1, S, hn, hc, hg => by
    by_cases hp : ∀ T, clauseB T = true → (∀ x ∈ T, x ∈ S) → G T = true → T = S
    · exact ⟨S, ⟨hc, hg, hp⟩, fun x hx => hx⟩
    · obtain ⟨T, hT⟩ := Classical.not_forall.1 hp
      simp only [Classical.not_imp] at hT
      obtain ⟨h1, h2, h3, h4⟩ := hT
      have h5 := clause_less h1 hc h2 h4
      obtain ⟨S', h6, h7⟩ := pr_below G n T (by omega) h1 h3
      exact ⟨S', h6, fun x hx => h2 x (h7 x hx)⟩

/-! Terms: what is true of a part is true of the whole. -/
theorem impB_mono {p : Nat → Bool} {S T : List Int} (h : ∀ x ∈ S, x ∈ T) (hS : impB p S = true) : impB p T = true := by
  unfold impB at hS ⊢
  rw [List.all_eq_true] at hS ⊢
  intro r hr
  have h1 := hS r hr
  cases hp : p r
  · simp only [hp, Bool.false_or] at h1 ⊢
    cases ht : termB T r
    · rfl
    · have : termB S r = true := by
        unfold termB at ht ⊢
        rw [List.all_eq_true] at ht ⊢
        exact fun x hx => ht x (h x hx)
      rw [this] at h1
      exact h1
  · simp
/-- A kept term is prime where it stays kept without none of its literals. -/
theorem pr_drops {p : Nat → Bool} {T : List Int} (hT : clauseB T = true) (hg : impB p T = true) : isPr (impB p) T ↔ ∀ i, i < T.length → impB p (T.take i ++ T.drop (i + 1)) = false := by
  constructor
  · rintro ⟨_, _, h⟩ i hi
    cases hd : impB p (T.take i ++ T.drop (i + 1))
    · rfl
    · have hsub : (T.take i ++ T.drop (i + 1)).Sublist T := by
        have h1 : (T.take i ++ T.drop (i + 1)).Sublist (T.take i ++ T.drop i) := (List.Sublist.refl _).append (List.drop_sublist_drop_left T (Nat.le_succ i))
        rwa [List.take_append_drop] at h1
      have he := h _ (clause_sub hsub hT) (fun x hx => hsub.subset hx) hd
      have hl := congrArg List.length he
      simp at hl
      omega
  · intro h
    refine ⟨hT, hg, fun S hS hsub hgS => ?_⟩
    apply Classical.byContradiction
    intro hne
    have hx : ∃ x, x ∈ T ∧ x ∉ S := by
      apply Classical.byContradiction
      intro hno
      refine hne (clause_ext hS hT fun x => ⟨hsub x, fun hx => ?_⟩)
      apply Classical.byContradiction
      exact fun hn => hno ⟨x, hx, hn⟩
    obtain ⟨x, hxT, hxS⟩ := hx
    obtain ⟨i, hi, he⟩ := List.mem_iff_getElem.1 hxT
    have h1 := h i hi
    have h2 : impB p (T.take i ++ T.drop (i + 1)) = true := by
      refine impB_mono (fun y hy => ?_) hgS
      rw [drop_mem hT (List.getElem?_eq_getElem hi)]
      refine ⟨hsub y hy, fun e => ?_⟩
      rw [he] at e
      exact hxS (clause_same hT (hsub y hy) hxT e ▸ hy)
    rw [h2] at h1
    cases h1
theorem drop_clause {T : List Int} (hT : clauseB T = true) (i : Nat) : clauseB (T.take i ++ T.drop (i + 1)) = true := by
  have h1 : (T.take i ++ T.drop (i + 1)).Sublist (T.take i ++ T.drop i) := (List.Sublist.refl _).append (List.drop_sublist_drop_left T (Nat.le_succ i))
  rw [List.take_append_drop] at h1
  exact clause_sub h1 hT

/-! Opposite literals. -/
def opp (l : Int) : Int := if l % 2 = 0 then l + 1 else l - 1
theorem opp_half (l : Int) : opp l / 2 = l / 2 := by unfold opp; split <;> omega
theorem opp_opp (l : Int) : opp (opp l) = l := by unfold opp; split <;> split <;> omega
theorem opp_in {l : Int} (h : 0 ≤ l ∧ l ≤ 11) : 0 ≤ opp l ∧ opp l ≤ 11 := by unfold opp; split <;> omega
theorem opps_opps (T : List Int) : (T.map opp).map opp = T := by rw [List.map_map]; conv => rhs; rw [← List.map_id T]
                                                                 exact List.map_congr_left fun x _ => opp_opp x
theorem opp_clause {T : List Int} (h : clauseB T = true) : clauseB (T.map opp) = true := by
  rw [clause_pw] at h ⊢
  refine ⟨fun x hx => ?_, ?_⟩
  · obtain ⟨y, hy, rfl⟩ := List.mem_map.1 hx
    exact opp_in (h.1 y hy)
  · rw [List.pairwise_map]
    exact h.2.imp fun {a b} hab => by rw [opp_half, opp_half]; exact hab
theorem litB_opp (l : Int) (r : Nat) : litB (opp l) r = !litB l r := by
  unfold litB
  rw [opp_half]
  have : decide (opp l % 2 = 0) = !decide (l % 2 = 0) := by
    rw [Bool.eq_iff_iff, Bool.not_eq_true', decide_eq_true_eq, decide_eq_false_iff_not]
    unfold opp
    split <;> omega
  rw [this]
  cases r.testBit (l / 2).toNat <;> cases decide (l % 2 = 0) <;> rfl
theorem termB_opp (T : List Int) (r : Nat) : termB (T.map opp) r = !someB T r := by
  unfold termB someB
  induction T with
  | nil => rfl
  | cons a T ih => rw [List.map_cons, List.all_cons, List.any_cons, ih, litB_opp, Bool.not_or]
theorem imp_opp (p : Nat → Bool) (T : List Int) : impB (fun r => !p r) (T.map opp) = clsB p T := by
  unfold impB clsB
  congr 1
  funext r
  rw [termB_opp, Bool.not_not]
theorem opp_sub {S T : List Int} : (∀ x ∈ S.map opp, x ∈ T.map opp) ↔ ∀ x ∈ S, x ∈ T := by
  constructor
  · intro h x hx
    obtain ⟨y, hy, he⟩ := List.mem_map.1 (h (opp x) (List.mem_map_of_mem hx))
    have := congrArg opp he
    rw [opp_opp, opp_opp] at this
    exact this ▸ hy
  · intro h x hx
    obtain ⟨y, hy, rfl⟩ := List.mem_map.1 hx
    exact List.mem_map_of_mem (h y hy)
theorem pr_opp (p : Nat → Bool) (T : List Int) : isPr (impB fun r => !p r) (T.map opp) ↔ isPr (clsB p) T := by
  constructor
  · rintro ⟨h1, h2, h3⟩
    have hc := opp_clause h1
    rw [opps_opps] at hc
    refine ⟨hc, by rw [← imp_opp]; exact h2, fun S hS hsub hg => ?_⟩
    have := h3 (S.map opp) (opp_clause hS) (opp_sub.2 hsub) (by rw [imp_opp]; exact hg)
    have h4 := congrArg (List.map opp) this
    rwa [opps_opps, opps_opps] at h4
  · rintro ⟨h1, h2, h3⟩
    refine ⟨opp_clause h1, by rw [imp_opp]; exact h2, fun S hS hsub hg => ?_⟩
    have e := opps_opps S
    have := h3 (S.map opp) (opp_clause hS) (opp_sub.1 (by rw [e]; exact hsub)) (by rw [← imp_opp, e]; exact hg)
    rw [← this, e]
theorem opp_inj {S T : List Int} (h : S.map opp = T.map opp) : S = T := by
  have := congrArg (List.map opp) h
  rwa [opps_opps, opps_opps] at this
/-- The opposites of the prime terms of the other rows are the prime clauses. -/
theorem opps_ans {p : Nat → Bool} {R : List (List Int)} (h : isAns (impB fun r => !p r) R) (x : List Int) : x ∈ R.map (List.map opp) ↔ isPr (clsB p) x := by
  rw [List.mem_map, ← pr_opp, ← h.2]
  constructor
  · rintro ⟨y, hy, rfl⟩
    rw [opps_opps]
    exact hy
  · exact fun hx => ⟨_, hx, opps_opps x⟩

/-! The reference's way: all clauses in the order of their lengths. -/
structure FoundSt (G : List Int → Bool) (C found : List (List Int)) (i : Nat) : Prop where
  mem : ∀ x, x ∈ found ↔ x ∈ C.take i ∧ isPr G x
structure AllCl (C : List (List Int)) : Prop where
  cl : ∀ x ∈ C, clauseB x = true
  all : ∀ x, clauseB x = true → x ∈ C
  pw : C.Pairwise fun x y => x.length ≤ y.length
theorem FoundSt.start (G : List Int → Bool) (C : List (List Int)) : FoundSt G C [] 0 := ⟨fun x => by simp⟩
theorem FoundSt.no {G : List Int → Bool} {C found : List (List Int)} {i : Nat} {T : List Int} (h : FoundSt G C found i) (hC : AllCl C) (hT : C[i]? = some T) (hb : (∃ F ∈ found, ∀ x ∈ F, x ∈ T) ∨ G T = false) : FoundSt G C found (i + 1) := by
  refine ⟨fun x => ?_⟩
  rw [h.mem, List.take_add_one, hT, List.mem_append]
  constructor
  · rintro ⟨h1, h2⟩
    exact ⟨.inl h1, h2⟩
  · rintro ⟨h1, h2⟩
    refine ⟨?_, h2⟩
    rcases h1 with h1 | h1
    · exact h1
    · obtain rfl : x = T := by simpa using h1
      rcases hb with ⟨F, hF, hsub⟩ | hb
      · obtain ⟨h3, h4⟩ := (h.mem F).1 hF
        rw [← h2.2.2 F h4.1 hsub h4.2.1]
        exact h3
      · rw [h2.2.1] at hb; cases hb
theorem FoundSt.yes {G : List Int → Bool} {C found : List (List Int)} {i : Nat} {T : List Int} (h : FoundSt G C found i) (hC : AllCl C) (hT : C[i]? = some T) (hf : ∀ F ∈ found, ¬ ∀ x ∈ F, x ∈ T) (hg : G T = true) : FoundSt G C (found ++ [T]) (i + 1) := by
  have hcT := hC.cl T (List.mem_of_getElem? hT)
  have hpr : isPr G T := by
    refine ⟨hcT, hg, fun S hS hsub hgS => ?_⟩
    apply Classical.byContradiction
    intro hne
    obtain ⟨S', h1, h2⟩ := pr_below G S.length S (Nat.le_refl _) hS hgS
    have h3 := clause_less hS hcT hsub hne
    have h4 := (clause_part_sub h1.1 hS h2).length_le
    obtain ⟨j, hj⟩ := List.getElem?_of_mem (hC.all S' h1.1)
    have hji : j < i := by
      rcases Nat.lt_or_ge j i with h5 | h5
      · exact h5
      · rcases Nat.lt_or_eq_of_le h5 with h6 | rfl
        · have h7 := hC.pw
          rw [List.pairwise_iff_getElem] at h7
          obtain ⟨li, ei⟩ := List.getElem?_eq_some_iff.1 hT
          obtain ⟨lj, ej⟩ := List.getElem?_eq_some_iff.1 hj
          have := h7 i j li lj h6
          rw [ei, ej] at this
          omega
        · rw [hT] at hj
          obtain rfl := Option.some.inj hj
          omega
    have hm : S' ∈ C.take i := List.mem_of_getElem? (i := j) (by rw [List.getElem?_take_of_lt hji]; exact hj)
    exact hf S' ((h.mem S').2 ⟨hm, h1⟩) fun x hx => hsub x (h2 x hx)
  refine ⟨fun x => ?_⟩
  rw [List.mem_append, h.mem, List.take_add_one, hT, List.mem_append]
  constructor
  · rintro (⟨h1, h2⟩ | h1)
    · exact ⟨.inl h1, h2⟩
    · obtain rfl : x = T := by simpa using h1
      exact ⟨.inr (by simp), hpr⟩
  · rintro ⟨h1 | h1, h2⟩
    · exact .inl ⟨h1, h2⟩
    · exact .inr (by simpa using h1)
theorem FoundSt.done {G : List Int → Bool} {C found : List (List Int)} (h : FoundSt G C found C.length) (hC : AllCl C) (x : List Int) : x ∈ found ↔ isPr G x := by
  rw [h.mem, List.take_length]
  exact ⟨fun h => h.2, fun h => ⟨hC.all x h.1, h⟩⟩
end Go.Proofs.YtmhkcicjbgifnaaGreat
