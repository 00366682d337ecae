/- Plain theory: the unification of two formulas. -/
import Derived.Test.YtdpnkojchimmfaaQBComposeTwo
import Derived.Test.YtdpnkojchimmfaaQBVarsM
import Derived.Test.YtdpnkojchimmfaaQBOccurM

namespace Go.Proofs.Ytdpnkojchimmfaa
open Go.RowKit Go.Deep

/-- How many nodes two formulas begin alike. -/
def agree : List Nd → List Nd → Nat
  | x :: a, y :: b => if x = y then agree a b + 1 else 0
  | _, _ => 0
theorem agree_eq : ∀ (a b : List Nd) (k : Nat), k ≤ a.length → k ≤ b.length → (∀ j, j < k → a[j]? = b[j]?) → (k = a.length ∨ k = b.length ∨ a[k]? ≠ b[k]?) → agree a b = k := by
  intro a
  induction a with
  | nil => intro b k h1; simp at h1; subst h1; intros; simp [agree]
  | cons x a ih =>
    intro b k h1 h2 h3 h4
    cases b with
    | nil => simp at h2; subst h2; simp [agree]
    | cons y b =>
      cases k with
      | zero =>
        have : x ≠ y := by rcases h4 with h4 | h4 | h4 <;> simp at h4 ⊢ <;> exact h4
        simp [agree, this]
      | succ k =>
        have h0 := h3 0 (by omega)
        simp at h0
        subst h0
        have := ih b k (by simpa using h1) (by simpa using h2) (fun j hj => by have := h3 (j + 1) (by omega); simpa using this) (by rcases h4 with h4 | h4 | h4 <;> simp at h4 <;> simp [h4])
        simp [agree, this]
theorem agree_le : ∀ (a b : List Nd), agree a b ≤ a.length ∧ agree a b ≤ b.length := by
  intro a
  induction a with
  | nil => intro b; simp [agree]
  | cons x a ih =>
    intro b
    cases b with
    | nil => simp [agree]
    | cons y b =>
      have := ih b
      unfold agree
      split
      · simp; omega
      · simp
theorem agree_ne : ∀ (a b : List Nd), agree a b < a.length → agree a b < b.length → a[agree a b]? ≠ b[agree a b]? := by
  intro a
  induction a with
  | nil => intro b h; simp at h
  | cons x a ih =>
    intro b h1 h2
    cases b with
    | nil => simp at h2
    | cons y b =>
      unfold agree at h1 h2 ⊢
      split at h1
      · rename_i e
        rw [if_pos e] at h2 ⊢
        simpa using ih b (by simpa using h1) (by simpa using h2)
      · rename_i e
        rw [if_neg e]
        simpa using e

def headN (x : List Nd) : Nd := x.headD (0, 0)
/-- The variable that is bound, and the part that it is bound to. -/
def bindOf (x y : List Nd) : Option (Int × List Nd) :=
  if (headN x).1 = 0 then
    if (headN y).1 = 0 ∧ (headN x).2 < (headN y).2 then (if (headN y).2 ∈ varL x then none else some ((headN y).2, x))
    else (if (headN x).2 ∈ varL y then none else some ((headN x).2, y))
  else if (headN y).1 = 0 then (if (headN y).2 ∈ varL x then none else some ((headN y).2, x)) else none
def bindJ (v : Int) (d : List Nd) : List (List Nd) := (selfL 6).set v.toNat d
def unifGo : Nat → List Nd → List Nd → List (List Nd) → List (List Nd) × Int
  | 0, _, _, _ => ([], 0)
  | n + 1, a, b, Is =>
    if agree a b = a.length ∨ agree a b = b.length then (Is, 0)
    else match bindOf (partL a (agree a b)) (partL b (agree a b)) with
      | none => ([], 4)
      | some (v, d) => if bigB (subL (bindJ v d) a :: subL (bindJ v d) b :: compL Is (bindJ v d)) then ([], 3) else unifGo n (subL (bindJ v d) a) (subL (bindJ v d) b) (compL Is (bindJ v d))
theorem unif_done {n : Nat} {a b : List Nd} {Is : List (List Nd)} (h : agree a b = a.length ∨ agree a b = b.length) : unifGo (n + 1) a b Is = (Is, 0) := by
  unfold unifGo; rw [if_pos h]
theorem unif_none {n : Nat} {a b : List Nd} {Is : List (List Nd)} (h : ¬ (agree a b = a.length ∨ agree a b = b.length)) (h2 : bindOf (partL a (agree a b)) (partL b (agree a b)) = none) : unifGo (n + 1) a b Is = ([], 4) := by
  unfold unifGo; rw [if_neg h, h2]
theorem unif_big {n : Nat} {a b : List Nd} {Is : List (List Nd)} {v : Int} {d : List Nd} (h : ¬ (agree a b = a.length ∨ agree a b = b.length)) (h2 : bindOf (partL a (agree a b)) (partL b (agree a b)) = some (v, d))
    (h3 : bigB (subL (bindJ v d) a :: subL (bindJ v d) b :: compL Is (bindJ v d)) = true) : unifGo (n + 1) a b Is = ([], 3) := by
  unfold unifGo; rw [if_neg h, h2]; simp only [h3, if_true]
theorem unif_step {n : Nat} {a b : List Nd} {Is : List (List Nd)} {v : Int} {d : List Nd} (h : ¬ (agree a b = a.length ∨ agree a b = b.length)) (h2 : bindOf (partL a (agree a b)) (partL b (agree a b)) = some (v, d))
    (h3 : bigB (subL (bindJ v d) a :: subL (bindJ v d) b :: compL Is (bindJ v d)) = false) : unifGo (n + 1) a b Is = unifGo n (subL (bindJ v d) a) (subL (bindJ v d) b) (compL Is (bindJ v d)) := by
  conv => lhs; unfold unifGo
  rw [if_neg h, h2]; simp only [h3]; rfl

-- parts are formulas
theorem part_form {ns : List Nd} (h : formB ns = true) {i : Nat} (hi : i < ns.length) : formB (partL ns i) = true ∧ headN (partL ns i) ∈ ns ∧ ns[i]? = some (headN (partL ns i)) ∧ ∀ n ∈ partL ns i, n ∈ ns := by
  obtain ⟨m, hm0, hm1, hme⟩ := part_in h hi
  have hp := partL_eq hme
  have hsub : ∀ n ∈ partL ns i, n ∈ ns := fun n hn => by
    rw [← hp] at hn
    exact List.mem_of_mem_drop (List.mem_of_mem_take hn)
  simp only [formB, Bool.and_eq_true, decide_eq_true_eq] at h
  obtain ⟨⟨⟨_, h40⟩, hall⟩, hsk⟩ := h
  obtain ⟨r, hr⟩ := skip_mid ns 1 hsk i hi
  obtain ⟨t, ht, hf⟩ := tree_of_skip _ _ r (Nat.le_refl _) hr
  have hlen : (ns.drop i).length = (flat t).length + r.length := by rw [hf]; simp
  rw [List.length_drop] at hlen
  have hml : m = (flat t).length := by
    unfold partEndL at hme
    rw [hr] at hme
    simp only at hme
    omega
  have hpl : partL ns i = flat t := by rw [← hp, hf, hml, List.take_left]
  have h0 : ns[i]? = some (headN (partL ns i)) := by
    have : (ns.drop i)[0]? = ns[i]? := by simp
    rw [← this, hf, hpl]
    have := flat_pos t ht
    cases hft : flat t with
    | nil => rw [hft] at this; simp at this
    | cons n l => simp [headN]
  refine ⟨?_, List.mem_of_getElem? h0, h0, hsub⟩
  rw [hpl]
  refine tree_form ht (by omega) fun n hn => ?_
  exact List.all_eq_true.1 hall n (hsub n (by rw [hpl]; exact hn))

-- images of formulas are formulas
theorem form_skip {I : List Nd} (h : formB I = true) (l : List Nd) (o : Nat) : skip (I ++ l) (o + 1) = skip l o := by
  obtain ⟨t, ht, rfl, _⟩ := form_tree h
  exact skip_flat t ht l o
theorem sub_skip {Is : List (List Nd)} (h6 : Is.length = 6) (hI : ∀ I ∈ Is, formB I = true) : ∀ (a : List Nd) (o : Nat), a.all nodeB = true → skip (subL Is a) o = (skip a o).map (subL Is) := by
  intro a
  induction a with
  | nil => intro o _; cases o <;> rfl
  | cons n a ih =>
    intro o hg
    simp only [List.all_cons, Bool.and_eq_true] at hg
    cases o with
    | zero => rw [skip_zero, skip_zero]; rfl
    | succ o =>
      have e : subL Is (n :: a) = subN Is n ++ subL Is a := by simp [subL]
      rw [e, skip_cons]
      unfold subN
      by_cases hn : n.1 = 0
      · rw [if_pos hn, hn]
        have hb := hg.1
        unfold nodeB at hb
        rw [if_pos hn, decide_eq_true_eq] at hb
        have hl : n.2.toNat < Is.length := by omega
        have hg2 : Is.getD n.2.toNat [] = Is[n.2.toNat] := by simp [List.getD, hl]
        rw [hg2, form_skip (hI _ (List.getElem_mem hl))]
        show _ = (skip a (o + 0)).map _
        rw [Nat.add_zero]
        exact ih o hg.2
      · rw [if_neg hn]
        show skip (n :: subL Is a) (o + 1) = _
        rw [skip_cons]
        exact ih _ hg.2
theorem sub_nodes {Is : List (List Nd)} (h6 : Is.length = 6) (hI : ∀ I ∈ Is, formB I = true) (a : List Nd) (hg : a.all nodeB = true) : (subL Is a).all nodeB = true := by
  rw [List.all_eq_true]
  intro n hn
  unfold subL at hn
  rw [List.mem_flatMap] at hn
  obtain ⟨m, hm, hn⟩ := hn
  have hb := List.all_eq_true.1 hg m hm
  unfold subN at hn
  by_cases h0 : m.1 = 0
  · rw [if_pos h0] at hn
    unfold nodeB at hb
    rw [if_pos h0, decide_eq_true_eq] at hb
    have hl : m.2.toNat < Is.length := by omega
    have hg2 : Is.getD m.2.toNat [] = Is[m.2.toNat] := by simp [List.getD, hl]
    rw [hg2] at hn
    exact List.all_eq_true.1 (form_all (hI _ (List.getElem_mem hl))) n hn
  · rw [if_neg h0] at hn
    obtain rfl : n = m := by simpa using hn
    exact hb
theorem sub_form {Is : List (List Nd)} (h6 : Is.length = 6) (hI : ∀ I ∈ Is, formB I = true) {a : List Nd} (ha : formB a = true) (hl : (subL Is a).length ≤ 40) : formB (subL Is a) = true := by
  have h1 := sub_nodes h6 hI a (form_all ha)
  simp only [formB, Bool.and_eq_true, decide_eq_true_eq] at ha ⊢
  have h2 := sub_skip h6 hI a 1 ha.1.2
  rw [ha.2] at h2
  refine ⟨⟨⟨?_, hl⟩, h1⟩, h2⟩
  rcases Nat.eq_zero_or_pos (subL Is a).length with h0 | h0
  · rw [List.eq_nil_of_length_eq_zero h0] at h2
    cases h2
  · exact h0
theorem self_form : ∀ I ∈ selfL 6, formB I = true := by
  intro I hI
  simp only [selfL, List.mem_map, List.mem_range] at hI
  obtain ⟨i, hi, rfl⟩ := hI
  simp [formB, nodeB, skip, ar]
  omega
theorem bindJ_form {v : Int} {d : List Nd} (hd : formB d = true) : (bindJ v d).length = 6 ∧ ∀ I ∈ bindJ v d, formB I = true := by
  refine ⟨by simp [bindJ, selfL], fun I hI => ?_⟩
  rcases List.mem_or_eq_of_mem_set hI with h | rfl
  · exact self_form I h
  · exact hd

-- the variables
theorem mem_varL {a : List Nd} {v : Int} : v ∈ varL a ↔ ((0 : Int), v) ∈ a := by
  unfold varL
  rw [List.mem_map]
  constructor
  · rintro ⟨n, hn, rfl⟩
    rw [List.mem_filter] at hn
    have h0 : n.1 = 0 := by simpa using hn.2
    have : n = (0, n.2) := by rw [← h0]
    rw [← this]
    exact hn.1
  · intro h
    exact ⟨(0, v), by rw [List.mem_filter]; exact ⟨h, by simp⟩, rfl⟩
theorem bindJ_get {v w : Int} {d : List Nd} (hv0 : 0 ≤ v) (hv5 : v ≤ 5) (hw0 : 0 ≤ w) (hw5 : w ≤ 5) : (bindJ v d).getD w.toNat [] = if w = v then d else [(0, w)] := by
  have hl : (selfL 6).length = 6 := by simp [selfL]
  unfold bindJ
  split
  · rename_i h
    subst h
    rw [List.getD_eq_getElem?_getD, List.getElem?_set_self (by omega)]
    rfl
  · rename_i h
    rw [List.getD_eq_getElem?_getD, List.getElem?_set_ne (by omega)]
    have : (selfL 6)[w.toNat]? = some [(0, w)] := by
      unfold selfL
      rw [List.getElem?_map, List.getElem?_range (by omega)]
      simp
      omega
    rw [this]
    rfl
theorem sub_vars {v : Int} {d a : List Nd} (hv0 : 0 ≤ v) (hv5 : v ≤ 5) (hg : a.all nodeB = true) {w : Int} (hw : w ∈ varL (subL (bindJ v d) a)) : (w ∈ varL a ∧ w ≠ v) ∨ w ∈ varL d := by
  rw [mem_varL] at hw
  unfold subL at hw
  rw [List.mem_flatMap] at hw
  obtain ⟨n, hn, hw⟩ := hw
  have hb := List.all_eq_true.1 hg n hn
  unfold subN at hw
  by_cases h0 : n.1 = 0
  · rw [if_pos h0] at hw
    unfold nodeB at hb
    rw [if_pos h0, decide_eq_true_eq] at hb
    rw [bindJ_get hv0 hv5 hb.1 hb.2] at hw
    split at hw
    · exact .inr (mem_varL.2 hw)
    · rename_i hne
      left
      obtain rfl : w = n.2 := by simpa using hw
      exact ⟨mem_varL.2 (by rw [← h0]; exact hn), hne⟩
  · rw [if_neg h0] at hw
    have : ((0 : Int), w) = n := by simpa using hw
    rw [← this] at h0
    exact absurd rfl h0
/-- How many variables are in a list. -/
def cntV (S : List Int) : Nat := ((List.range 6).filter fun v => decide (((v : Nat) : Int) ∈ S)).length
theorem filter_less {α : Type} (L : List α) (p q : α → Bool) (h : ∀ x ∈ L, q x = true → p x = true) : (L.filter q).length ≤ (L.filter p).length ∧ ((∃ x ∈ L, p x = true ∧ q x = false) → (L.filter q).length < (L.filter p).length) := by
  induction L with
  | nil => simp
  | cons x L ih =>
    obtain ⟨h1, h2⟩ := ih fun y hy => h y (List.mem_cons_of_mem _ hy)
    have hx := h x List.mem_cons_self
    simp only [List.filter_cons]
    constructor
    · cases hq : q x <;> cases hp : p x <;> simp_all <;> omega
    · rintro ⟨y, hy, hpy, hqy⟩
      rcases List.mem_cons.1 hy with rfl | hy
      · rw [hpy, hqy]; simp; omega
      · have := h2 ⟨y, hy, hpy, hqy⟩
        cases hq : q x <;> cases hp : p x <;> simp_all <;> omega
theorem cntV_le (S : List Int) : cntV S ≤ 6 := by
  have := List.length_filter_le (fun v : Nat => decide (((v : Nat) : Int) ∈ S)) (List.range 6)
  simpa [cntV] using this
theorem cntV_less {S S' : List Int} {v : Int} (hv0 : 0 ≤ v) (hv5 : v ≤ 5) (hv : v ∈ S) (hv' : v ∉ S') (h : ∀ w ∈ S', w ∈ S) : cntV S' < cntV S := by
  refine (filter_less _ _ _ fun x _ hx => ?_).2 ⟨v.toNat, by simp; omega, ?_, ?_⟩
  · simp only [decide_eq_true_eq] at hx ⊢
    exact h _ hx
  · rw [Int.toNat_of_nonneg hv0]; simpa using hv
  · rw [Int.toNat_of_nonneg hv0]; simpa using hv'

/-- What one round of the unification keeps. -/
theorem bind_facts {a b : List Nd} (ha : formB a = true) (hb : formB b = true) (h : ¬ (agree a b = a.length ∨ agree a b = b.length)) {v : Int} {d : List Nd} (h2 : bindOf (partL a (agree a b)) (partL b (agree a b)) = some (v, d)) :
    0 ≤ v ∧ v ≤ 5 ∧ formB d = true ∧ v ∉ varL d ∧ v ∈ varL a ++ varL b ∧ ∀ w ∈ varL d, w ∈ varL a ++ varL b := by
  have hl := agree_le a b
  obtain ⟨f1, m1, _, s1⟩ := part_form ha (i := agree a b) (by omega)
  obtain ⟨f2, m2, _, s2⟩ := part_form hb (i := agree a b) (by omega)
  have hn1 := List.all_eq_true.1 (form_all ha) _ m1
  have hn2 := List.all_eq_true.1 (form_all hb) _ m2
  have v1 : ∀ w ∈ varL (partL a (agree a b)), w ∈ varL a ++ varL b := fun w hw => List.mem_append.2 (.inl (mem_varL.2 (s1 _ (mem_varL.1 hw))))
  have v2 : ∀ w ∈ varL (partL b (agree a b)), w ∈ varL a ++ varL b := fun w hw => List.mem_append.2 (.inr (mem_varL.2 (s2 _ (mem_varL.1 hw))))
  generalize partL a (agree a b) = x at *
  generalize partL b (agree a b) = y at *
  have k1 : (headN x).1 = 0 → (headN x).2 ∈ varL a ++ varL b ∧ 0 ≤ (headN x).2 ∧ (headN x).2 ≤ 5 := fun h0 => by
    unfold nodeB at hn1
    rw [if_pos h0, decide_eq_true_eq] at hn1
    exact ⟨List.mem_append.2 (.inl (mem_varL.2 (by rw [← h0]; exact m1))), hn1⟩
  have k2 : (headN y).1 = 0 → (headN y).2 ∈ varL a ++ varL b ∧ 0 ≤ (headN y).2 ∧ (headN y).2 ≤ 5 := fun h0 => by
    unfold nodeB at hn2
    rw [if_pos h0, decide_eq_true_eq] at hn2
    exact ⟨List.mem_append.2 (.inr (mem_varL.2 (by rw [← h0]; exact m2))), hn2⟩
  unfold bindOf at h2
  split at h2
  · rename_i hx
    split at h2
    · rename_i hy
      split at h2
      · cases h2
      · rename_i hn
        obtain ⟨rfl, rfl⟩ : (headN y).2 = v ∧ x = d := by simpa using h2
        exact ⟨(k2 hy.1).2.1, (k2 hy.1).2.2, f1, hn, (k2 hy.1).1, v1⟩
    · split at h2
      · cases h2
      · rename_i hn
        obtain ⟨rfl, rfl⟩ : (headN x).2 = v ∧ y = d := by simpa using h2
        exact ⟨(k1 hx).2.1, (k1 hx).2.2, f2, hn, (k1 hx).1, v2⟩
  · split at h2
    · rename_i hy
      split at h2
      · cases h2
      · rename_i hn
        obtain ⟨rfl, rfl⟩ : (headN y).2 = v ∧ x = d := by simpa using h2
        exact ⟨(k2 hy).2.1, (k2 hy).2.2, f1, hn, (k2 hy).1, v1⟩
    · cases h2
theorem round_less {a b : List Nd} (ha : formB a = true) (hb : formB b = true) (h : ¬ (agree a b = a.length ∨ agree a b = b.length)) {v : Int} {d : List Nd} (h2 : bindOf (partL a (agree a b)) (partL b (agree a b)) = some (v, d)) :
    cntV (varL (subL (bindJ v d) a) ++ varL (subL (bindJ v d) b)) < cntV (varL a ++ varL b) := by
  obtain ⟨v0, v5, _, hnd, hv, hd⟩ := bind_facts ha hb h h2
  refine cntV_less v0 v5 hv (fun hm => ?_) fun w hw => ?_
  · rcases List.mem_append.1 hm with hm | hm
    · rcases sub_vars v0 v5 (form_all ha) hm with ⟨_, h9⟩ | h9
      · exact h9 rfl
      · exact hnd h9
    · rcases sub_vars v0 v5 (form_all hb) hm with ⟨_, h9⟩ | h9
      · exact h9 rfl
      · exact hnd h9
  · rcases List.mem_append.1 hw with hw | hw
    · rcases sub_vars v0 v5 (form_all ha) hw with ⟨h9, _⟩ | h9
      · exact List.mem_append.2 (.inl h9)
      · exact hd w h9
    · rcases sub_vars v0 v5 (form_all hb) hw with ⟨h9, _⟩ | h9
      · exact List.mem_append.2 (.inr h9)
      · exact hd w h9
theorem comp_forms {Is J : List (List Nd)} (h6 : J.length = 6) (hJ : ∀ I ∈ J, formB I = true) (hI : ∀ I ∈ Is, formB I = true) (hb : bigB (compL Is J) = false) : ∀ I ∈ compL Is J, formB I = true := by
  intro I hm
  have hs := small_of_bigB hb I hm
  unfold compL at hm
  obtain ⟨K, hK, rfl⟩ := List.mem_map.1 hm
  exact sub_form h6 hJ (hI K hK) hs

def uniR (a b : List Nd) : List (List Nd) := if form2 a b then (unifGo 7 a b (selfL 6)).1 else []
def uniCode (a b : List Nd) : Int := if form2 a b then (unifGo 7 a b (selfL 6)).2 else 1
theorem uni_no {a b : List Nd} (h : form2 a b = false) : uniR a b = [] ∧ uniCode a b = 1 := by simp [uniR, uniCode, h]
theorem uni_yes {a b : List Nd} (h : form2 a b = true) : uniR a b = (unifGo 7 a b (selfL 6)).1 ∧ uniCode a b = (unifGo 7 a b (selfL 6)).2 := by simp [uniR, uniCode, h]
theorem bigB_tail {a b : List Nd} {Is : List (List Nd)} (h : bigB (a :: b :: Is) = false) : a.length ≤ 40 ∧ b.length ≤ 40 ∧ bigB Is = false := by
  have h1 := small_of_bigB h
  exact ⟨h1 a (by simp), h1 b (by simp), bigB_small fun j I hI => h1 I (by have := List.mem_of_getElem? hI; simp [this])⟩
theorem unif_small : ∀ (n : Nat) (a b : List Nd) (Is : List (List Nd)), formB a = true → formB b = true → Is.length = 6 → (∀ I ∈ Is, formB I = true) → (unifGo n a b Is).1 = [] ∨ ((unifGo n a b Is).1.length = 6 ∧ ∀ I ∈ (unifGo n a b Is).1, formB I = true) := by
  intro n
  induction n with
  | zero => intro a b Is _ _ _ _; exact .inl rfl
  | succ n ih =>
    intro a b Is ha hb h6 hI
    by_cases h : agree a b = a.length ∨ agree a b = b.length
    · rw [unif_done h]; exact .inr ⟨h6, hI⟩
    · cases h2 : bindOf (partL a (agree a b)) (partL b (agree a b)) with
      | none => rw [unif_none h h2]; exact .inl rfl
      | some vd =>
        obtain ⟨v, d⟩ := vd
        obtain ⟨_, _, fd, _⟩ := bind_facts ha hb h h2
        obtain ⟨j6, jf⟩ := bindJ_form (v := v) fd
        cases h3 : bigB (subL (bindJ v d) a :: subL (bindJ v d) b :: compL Is (bindJ v d)) with
        | true => rw [unif_big h h2 h3]; exact .inl rfl
        | false =>
          obtain ⟨la, lb, hB⟩ := bigB_tail h3
          rw [unif_step h h2 h3]
          exact ih _ _ _ (sub_form j6 jf ha la) (sub_form j6 jf hb lb) (by rw [compL_length]; exact h6) (comp_forms j6 jf hI hB)
theorem uniR_tot (a b : List Nd) : tot (uniR a b) ≤ 240 := by
  cases h : form2 a b with
  | false => rw [(uni_no h).1]; simp [tot]
  | true =>
    rw [(uni_yes h).1]
    unfold form2 at h
    rw [Bool.and_eq_true] at h
    rcases unif_small 7 a b (selfL 6) h.1 h.2 (by simp [selfL]) self_form with h1 | ⟨h1, h2⟩
    · rw [h1]; simp [tot]
    · have := tot_le (n := 40) fun I hI => (by have := h2 I hI; simp only [formB, Bool.and_eq_true, decide_eq_true_eq] at this; exact this.1.1.2)
      rw [h1] at this
      exact this
end Go.Proofs.Ytdpnkojchimmfaa
