/- Plain theory: substitutions compose, and the image of a formula is what it is matched to; a unifier makes both formulas equal and is not changed by itself. No program is named here. -/
import Derived.Test.YtdpnkojchimmfaaQBUnifMath
import Derived.Test.YtdpnkojchimmfaaQBMatch
import Derived.Test.YtdpnkojchimmfaaQBMatchFormM
import Derived.Test.YtdpnkojchimmfaaQBSubForm

namespace Go.Proofs.Ytdpnkojchimmfaa
open Go.RowKit Go.Deep

theorem subL_cons (Is : List (List Nd)) (n : Nd) (a : List Nd) : subL Is (n :: a) = subN Is n ++ subL Is a := by simp [subL]
theorem subN_var (Is : List (List Nd)) (y : Int) : subN Is (0, y) = Is.getD y.toNat [] := by simp [subN]
theorem subN_else (Is : List (List Nd)) {x : Int} (y : Int) (h : x ≠ 0) : subN Is (x, y) = [(x, y)] := by simp [subN, h]
theorem node_var {y : Int} (h : nodeB (0, y) = true) : 0 ≤ y ∧ y ≤ 5 := by simpa [nodeB] using h
theorem getD_map (Is : List (List Nd)) (J : List (List Nd)) (k : Nat) : (compL Is J).getD k [] = subL J (Is.getD k []) := by
  unfold compL
  rw [List.getD_eq_getElem?_getD, List.getD_eq_getElem?_getD, List.getElem?_map]
  cases Is[k]? with
  | none => simp [subL]
  | some I => rfl

theorem sub_comp (I J : List (List Nd)) (a : List Nd) : subL J (subL I a) = subL (compL I J) a := by
  induction a with
  | nil => simp [subL]
  | cons n a ih =>
    obtain ⟨x, y⟩ := n
    have happ : ∀ p q : List Nd, subL J (p ++ q) = subL J p ++ subL J q := fun p q => by simp [subL]
    rw [subL_cons, subL_cons, happ, ih]
    congr 1
    by_cases hx : x = 0
    · subst hx
      rw [subN_var, subN_var, getD_map]
    · rw [subN_else _ _ hx, subN_else _ _ hx, subL_cons, subN_else _ _ hx]
      simp [subL]

theorem part_of {b : List Nd} {t : Nat} {I rest : List Nd} (h : b.drop t = I ++ rest) (ht : t ≤ b.length) (hI : formB I = true) : partL b t = I := by
  have hl : b.length = t + I.length + rest.length := by
    have := congrArg List.length h
    rw [List.length_drop, List.length_append] at this
    omega
  have he : partEndL b t = ((t + I.length : Nat) : Int) := by
    unfold partEndL
    rw [h, form_skip hI rest 0, skip_zero]
    simp only
    omega
  have := partL_eq he
  rw [h, List.take_left] at this
  exact this.symm

/-- What is known of a variable is its image. -/
def KnM (Is : List (List Nd)) (M : Im) (v : Nat) : Prop := M[v]? = some (some (Is.getD v []))
def OkM (Is : List (List Nd)) (M : Im) : Prop := M.length = 6 ∧ ∀ v, v < 6 → M[v]? = some none ∨ KnM Is M v

theorem match_sub {Is : List (List Nd)} (h6 : Is.length = 6) (hI : ∀ I ∈ Is, formB I = true) : ∀ (r : List Nd), r.all nodeB = true → ∀ (b : List Nd) (t : Nat) (M : Im), t ≤ b.length → b.drop t = subL Is r → OkM Is M →
    ∃ M', mGo b r t M = some M' ∧ OkM Is M' ∧ (∀ v, KnM Is M v → KnM Is M' v) ∧ ∀ v : Nat, ((0 : Int), (v : Int)) ∈ r → KnM Is M' v := by
  intro r
  induction r with
  | nil => intro _ b t M _ _ hM; exact ⟨M, rfl, hM, fun _ h => h, fun v h => by simp at h⟩
  | cons n r ih =>
    intro hg b t M ht hd hM
    obtain ⟨x, y⟩ := n
    simp only [List.all_cons, Bool.and_eq_true] at hg
    rw [subL_cons] at hd
    by_cases hx : x = 0
    · subst hx
      obtain ⟨y0, y5⟩ := node_var hg.1
      obtain ⟨u, rfl⟩ := Int.eq_ofNat_of_zero_le y0
      rw [subN_var, Int.toNat_natCast] at hd
      have hu : u < Is.length := by omega
      have hgd : Is.getD u [] = Is[u] := by simp [List.getD, hu]
      have hf : formB (Is.getD u []) = true := by rw [hgd]; exact hI _ (List.getElem_mem hu)
      have hp := part_of hd ht hf
      have hlen : t + (Is.getD u []).length ≤ b.length := by
        have := congrArg List.length hd
        rw [List.length_drop, List.length_append] at this
        omega
      have hd2 : b.drop (t + (Is.getD u []).length) = subL Is r := by rw [← List.drop_drop, hd, List.drop_left]
      have hM2 : OkM Is (M.set u (some (Is.getD u []))) ∧ (∀ v, KnM Is M v → KnM Is (M.set u (some (Is.getD u []))) v) ∧ KnM Is (M.set u (some (Is.getD u []))) u := by
        have hself : KnM Is (M.set u (some (Is.getD u []))) u := by unfold KnM; rw [List.getElem?_set_self (by rw [hM.1]; omega)]
        refine ⟨⟨by rw [List.length_set]; exact hM.1, fun v hv => ?_⟩, fun v hv => ?_, hself⟩
        · by_cases he : u = v
          · subst he; exact .inr hself
          · unfold KnM; rw [List.getElem?_set_ne he]; exact hM.2 v hv
        · by_cases he : u = v
          · subst he; exact hself
          · unfold KnM; rw [List.getElem?_set_ne he]; exact hv
      obtain ⟨M', h1, h2, h3, h4⟩ := ih hg.2 b _ _ hlen hd2 hM2.1
      refine ⟨M', ?_, h2, fun v hv => h3 v (hM2.2.1 v hv), fun v hv => ?_⟩
      · unfold mGo
        rw [if_pos rfl, Int.toNat_natCast, hp, List.getD_eq_getElem?_getD]
        rcases hM.2 u (by omega) with h | h
        · rw [h]; exact h1
        · rw [show M[u]? = _ from h]
          simp only [Option.getD_some, if_true]
          exact h1
      · rcases List.mem_cons.1 hv with e | hv
        · obtain rfl : v = u := by have := congrArg Prod.snd e; simp only at this; omega
          exact h3 _ hM2.2.2
        · exact h4 v hv
    · rw [subN_else _ _ hx] at hd
      have hget : b[t]? = some (x, y) := by
        have h0 : (b.drop t)[0]? = b[t]? := by simp
        rw [← h0, hd]; rfl
      have hlen : t + 1 ≤ b.length := by
        have := (List.getElem?_eq_some_iff.1 hget).1
        omega
      have hd2 : b.drop (t + 1) = subL Is r := by rw [← List.drop_drop, hd]; rfl
      obtain ⟨M', h1, h2, h3, h4⟩ := ih hg.2 b _ M hlen hd2 hM
      refine ⟨M', ?_, h2, h3, fun v hv => ?_⟩
      · unfold mGo
        rw [if_neg hx, if_pos hget]
        exact h1
      · rcases List.mem_cons.1 hv with e | hv
        · exact absurd (congrArg Prod.fst e).symm hx
        · exact h4 v hv

theorem sub_same {Is Js : List (List Nd)} : ∀ (a : List Nd), a.all nodeB = true → (∀ v : Nat, ((0 : Int), (v : Int)) ∈ a → Is.getD v [] = Js.getD v []) → subL Is a = subL Js a := by
  intro a
  induction a with
  | nil => intro _ _; simp [subL]
  | cons n a ih =>
    intro hg h
    obtain ⟨x, y⟩ := n
    simp only [List.all_cons, Bool.and_eq_true] at hg
    rw [subL_cons, subL_cons, ih hg.2 fun v hv => h v (List.mem_cons_of_mem _ hv)]
    congr 1
    by_cases hx : x = 0
    · subst hx
      obtain ⟨y0, y5⟩ := node_var hg.1
      obtain ⟨u, rfl⟩ := Int.eq_ofNat_of_zero_le y0
      rw [subN_var, subN_var, Int.toNat_natCast]
      exact h u (by simp)
    · rw [subN_else _ _ hx, subN_else _ _ hx]

theorem self_getD {u : Nat} (h : u < 6) : (selfL 6).getD u [] = [((0 : Int), (u : Int))] := by
  unfold selfL
  rw [List.getD_eq_getElem?_getD, List.getElem?_map, List.getElem?_range h]
  rfl
theorem sub_id {Is : List (List Nd)} : ∀ (a : List Nd), a.all nodeB = true → (∀ v : Nat, ((0 : Int), (v : Int)) ∈ a → Is.getD v [] = [((0 : Int), (v : Int))]) → subL Is a = a := by
  intro a
  induction a with
  | nil => intro _ _; simp [subL]
  | cons n a ih =>
    intro hg h
    obtain ⟨x, y⟩ := n
    simp only [List.all_cons, Bool.and_eq_true] at hg
    rw [subL_cons, ih hg.2 fun v hv => h v (List.mem_cons_of_mem _ hv)]
    by_cases hx : x = 0
    · subst hx
      obtain ⟨y0, y5⟩ := node_var hg.1
      obtain ⟨u, rfl⟩ := Int.eq_ofNat_of_zero_le y0
      rw [subN_var, Int.toNat_natCast, h u (by simp)]
      rfl
    · rw [subN_else _ _ hx]; rfl

theorem subsB_iff {Is : List (List Nd)} : subsB Is = true ↔ Is.length = 6 ∧ ∀ I ∈ Is, formB I = true := by
  unfold subsB
  rw [Bool.and_eq_true, decide_eq_true_eq, List.all_eq_true]
theorem sb_zero {a : List Nd} {Is : List (List Nd)} (h : sbCode a Is = 0) : formB a = true ∧ subsB Is = true ∧ (subL Is a).length ≤ 40 ∧ sbR a Is = subL Is a := by
  rcases sb_cases a Is with ⟨_, h2, _⟩ | ⟨_, _, h2, _⟩ | ⟨h1, h2, _, h4⟩
  · omega
  · omega
  · rw [Bool.and_eq_true] at h1
    exact ⟨h1.1, h1.2, h2, h4⟩
theorem sb_yes {a : List Nd} {Is : List (List Nd)} (ha : formB a = true) (hI : subsB Is = true) (hl : (subL Is a).length ≤ 40) : sbCode a Is = 0 ∧ sbR a Is = subL Is a := by
  rcases sb_cases a Is with ⟨h1, _⟩ | ⟨_, h2, _⟩ | ⟨_, _, h3, h4⟩
  · rw [ha, hI] at h1; cases h1
  · omega
  · exact ⟨h3, h4⟩

/-- The law's second substitution. -/
def secondL : List (List Nd) := [[(0, 1)], [(0, 0)], [(1, 0)], [(0, 3)], [(0, 4)], [(0, 5)]]
theorem second_ok : subsB secondL = true := by decide
theorem second_len : ∀ (a : List Nd), a.all nodeB = true → (subL secondL a).length = a.length := by
  intro a
  induction a with
  | nil => intro _; simp [subL]
  | cons n a ih =>
    intro hg
    obtain ⟨x, y⟩ := n
    simp only [List.all_cons, Bool.and_eq_true] at hg
    rw [subL_cons, List.length_append, ih hg.2]
    by_cases hx : x = 0
    · subst hx
      obtain ⟨y0, y5⟩ := node_var hg.1
      have : y = 0 ∨ y = 1 ∨ y = 2 ∨ y = 3 ∨ y = 4 ∨ y = 5 := by omega
      rcases this with rfl | rfl | rfl | rfl | rfl | rfl <;> (simp [subN, secondL]; omega)
    · rw [subN_else _ _ hx]; simp; omega

theorem law_sub {a : List Nd} {Is : List (List Nd)} (h : sbCode a Is = 0) :
    mtCode a (sbR a Is) = 0 ∧ (mtR a (sbR a Is)).length = 6 ∧ sbCode a (mtR a (sbR a Is)) = 0 ∧ sbR a (mtR a (sbR a Is)) = sbR a Is ∧
    cpCode Is secondL = 0 ∧ sbCode (sbR a Is) secondL = 0 ∧ sbCode a (cpR Is secondL) = 0 ∧ sbR a (cpR Is secondL) = sbR (sbR a Is) secondL := by
  obtain ⟨ha, hI, hl, he⟩ := sb_zero h
  obtain ⟨h6, hf⟩ := subsB_iff.1 hI
  obtain ⟨s6, sf⟩ := subsB_iff.1 second_ok
  have hga := form_all ha
  have hb := sub_form h6 hf ha hl
  rw [he]
  obtain ⟨M, hm, hok, _, hkn⟩ := match_sub h6 hf a hga (subL Is a) 0 noIm (Nat.zero_le _) (by rw [List.drop_zero]) ⟨rfl, fun v hv => .inl (by
    unfold noIm; rw [List.getElem?_replicate, if_pos hv])⟩
  have hfin : ∀ v : Nat, v < 6 → (finM M).getD v [] = ((M.getD v none).getD [((0 : Int), (v : Int))]) := fun v hv => by
    unfold finM
    rw [List.getD_eq_getElem?_getD, List.getElem?_map, List.getElem?_range hv]; rfl
  have hmt : mtCode a (subL Is a) = 0 ∧ mtR a (subL Is a) = finM M := by
    rcases mt_cases a (subL Is a) with ⟨h1, _⟩ | ⟨_, h1, _⟩ | ⟨M2, _, h1, h2, h3⟩
    · rw [ha, hb] at h1; cases h1
    · unfold mtOpt at h1; rw [hm] at h1; cases h1
    · unfold mtOpt at h1; rw [hm] at h1; cases h1
      exact ⟨h2, h3⟩
  rw [hmt.2]
  have hsame : subL (finM M) a = subL Is a := sub_same a hga fun v hv => by
    have hn := List.all_eq_true.1 hga _ hv
    obtain ⟨_, y5⟩ := node_var hn
    rw [hfin v (by omega), List.getD_eq_getElem?_getD, show M[v]? = _ from hkn v hv]
    rfl
  have hfs : subsB (finM M) = true := subsB_iff.2 ⟨finM_length M, fun I hI => by
    obtain ⟨i, hi, rfl⟩ := List.mem_map.1 hI
    have hi := List.mem_range.1 hi
    have hvar : formB [((0 : Int), (i : Int))] = true := self_form _ (by
      have := self_getD hi
      rw [← this]
      rw [List.getD_eq_getElem?_getD]
      have h9 : i < (selfL 6).length := by simp [selfL]; exact hi
      rw [List.getElem?_eq_getElem h9]
      exact List.getElem_mem h9)
    rw [List.getD_eq_getElem?_getD]
    rcases hok.2 i hi with h9 | h9
    · rw [h9]; exact hvar
    · rw [show M[i]? = _ from h9]
      have hi6 : i < Is.length := by omega
      have : Is.getD i [] = Is[i] := by simp [List.getD, hi6]
      show formB (Is.getD i []) = true
      rw [this]
      exact hf _ (List.getElem_mem hi6)⟩
  obtain ⟨q1, q2⟩ := sb_yes ha hfs (by rw [hsame]; exact hl)
  have hcb : bigB (compL Is secondL) = false := bigB_small fun j I hI => by
    unfold compL at hI
    rw [List.getElem?_map] at hI
    cases hj : Is[j]? with
    | none => rw [hj] at hI; cases hI
    | some K =>
      rw [hj] at hI
      obtain rfl : subL secondL K = I := by simpa using hI
      have hK := hf K (List.mem_of_getElem? hj)
      rw [second_len K (form_all hK)]
      exact (form_len3 hK).2
  have hcp : cpCode Is secondL = 0 ∧ cpR Is secondL = compL Is secondL := by
    rcases cp_cases Is secondL with ⟨h1, _⟩ | ⟨_, h1, _⟩ | ⟨_, _, h2, h3⟩
    · rw [hI, second_ok] at h1; cases h1
    · rw [hcb] at h1; cases h1
    · exact ⟨h2, h3⟩
  have hcs : subsB (compL Is secondL) = true := subsB_iff.2 ⟨by rw [compL_length]; exact h6, comp_forms s6 sf hf hcb⟩
  have hbl : (subL secondL (subL Is a)).length ≤ 40 := by rw [second_len _ (form_all hb)]; exact hl
  obtain ⟨r1, r2⟩ := sb_yes hb second_ok hbl
  have hsc := sub_comp Is secondL a
  obtain ⟨t1, t2⟩ := sb_yes ha hcs (by rw [← hsc]; exact hbl)
  rw [hcp.2]
  exact ⟨hmt.1, finM_length M, q1, by rw [q2, hsame], hcp.1, r1, t1, by rw [t2, r2, hsc]⟩

-- unification
theorem agree_prefix : ∀ (a b : List Nd), agree a b = a.length → ∃ r, b = a ++ r := by
  intro a
  induction a with
  | nil => intro b _; exact ⟨b, rfl⟩
  | cons x a ih =>
    intro b h
    cases b with
    | nil => simp [agree] at h
    | cons y b =>
      unfold agree at h
      split at h
      · rename_i e
        subst e
        obtain ⟨r, rfl⟩ := ih b (by simpa using h)
        exact ⟨r, rfl⟩
      · simp at h
theorem agree_comm : ∀ (a b : List Nd), agree a b = agree b a := by
  intro a
  induction a with
  | nil => intro b; cases b <;> simp [agree]
  | cons x a ih =>
    intro b
    cases b with
    | nil => simp [agree]
    | cons y b =>
      unfold agree
      by_cases h : x = y
      · rw [if_pos h, if_pos h.symm, ih]
      · rw [if_neg h, if_neg fun e => h e.symm]
theorem form_prefix {a r : List Nd} (ha : formB a = true) (h : formB (a ++ r) = true) : r = [] := by
  simp only [formB, Bool.and_eq_true, decide_eq_true_eq] at h
  have h2 := h.2
  rw [form_skip ha r 0, skip_zero] at h2
  exact Option.some.inj h2
theorem agree_same {a b : List Nd} (ha : formB a = true) (hb : formB b = true) (h : agree a b = a.length ∨ agree a b = b.length) : a = b := by
  rcases h with h | h
  · obtain ⟨r, rfl⟩ := agree_prefix a b h
    rw [form_prefix ha hb, List.append_nil]
  · rw [agree_comm] at h
    obtain ⟨r, rfl⟩ := agree_prefix b a h
    rw [form_prefix hb ha, List.append_nil]

structure UInv (a0 b0 a b : List Nd) (Is : List (List Nd)) (Bd : List Int) : Prop where
  fa : formB a = true
  fb : formB b = true
  h6 : Is.length = 6
  fI : ∀ I ∈ Is, formB I = true
  ea : a = subL Is a0
  eb : b = subL Is b0
  free : ∀ v : Nat, v < 6 → (v : Int) ∉ Bd → Is.getD v [] = [((0 : Int), (v : Int))]
  vI : ∀ I ∈ Is, ∀ w ∈ varL I, w ∉ Bd
  va : ∀ w ∈ varL a, w ∉ Bd
  vb : ∀ w ∈ varL b, w ∉ Bd
theorem uinv_start {a b : List Nd} (ha : formB a = true) (hb : formB b = true) : UInv a b a b (selfL 6) [] := by
  have hid : ∀ c : List Nd, formB c = true → c = subL (selfL 6) c := fun c hc => (sub_id c (form_all hc) fun v hv => by
    have hn := List.all_eq_true.1 (form_all hc) _ hv
    obtain ⟨_, y5⟩ := node_var hn
    exact self_getD (by omega)).symm
  exact ⟨ha, hb, by simp [selfL], self_form, hid a ha, hid b hb, fun v hv _ => self_getD hv, fun _ _ _ _ => by simp, fun _ _ => by simp, fun _ _ => by simp⟩

theorem uni_good {a0 b0 : List Nd} : ∀ (n : Nat) (a b : List Nd) (Is : List (List Nd)) (Bd : List Int), UInv a0 b0 a b Is Bd → cntV (varL a ++ varL b) < n → (unifGo n a b Is).2 = 0 → ∃ c Bd', UInv a0 b0 c c (unifGo n a b Is).1 Bd' := by
  intro n
  induction n with
  | zero => intro a b Is Bd _ h; omega
  | succ n ih =>
    intro a b Is Bd hU hn h0
    by_cases h : agree a b = a.length ∨ agree a b = b.length
    · rw [unif_done h]
      have he := agree_same hU.fa hU.fb h
      subst he
      exact ⟨a, Bd, hU⟩
    · cases h2 : bindOf (partL a (agree a b)) (partL b (agree a b)) with
      | none => rw [unif_none h h2] at h0; simp at h0
      | some vd =>
        obtain ⟨v, d⟩ := vd
        obtain ⟨v0, v5, fd, hnd, hv, hd⟩ := bind_facts hU.fa hU.fb h h2
        have hless := round_less hU.fa hU.fb h h2
        obtain ⟨j6, jf⟩ := bindJ_form (v := v) fd
        cases h3 : bigB (subL (bindJ v d) a :: subL (bindJ v d) b :: compL Is (bindJ v d)) with
        | true => rw [unif_big h h2 h3] at h0; simp at h0
        | false =>
          obtain ⟨la, lb, hB⟩ := bigB_tail h3
          rw [unif_step h h2 h3] at h0 ⊢
          have hab : ∀ w ∈ varL a ++ varL b, w ∉ Bd := fun w hw => by
            rcases List.mem_append.1 hw with hw | hw
            · exact hU.va w hw
            · exact hU.vb w hw
          have hvars : ∀ c : List Nd, c.all nodeB = true → (∀ w ∈ varL c, w ∉ Bd) → ∀ w ∈ varL (subL (bindJ v d) c), w ∉ v :: Bd := fun c hc hcv w hw => by
            rcases sub_vars v0 v5 hc hw with ⟨h7, h8⟩ | h7
            · exact fun e => by
                rcases List.mem_cons.1 e with e | e
                · exact h8 e
                · exact hcv w h7 e
            · exact fun e => by
                rcases List.mem_cons.1 e with e | e
                · subst e; exact hnd h7
                · exact hab w (hd w h7) e
          refine ih _ _ _ (v :: Bd) ⟨sub_form j6 jf hU.fa la, sub_form j6 jf hU.fb lb, by rw [compL_length]; exact hU.h6, comp_forms j6 jf hU.fI hB, ?_, ?_, fun u hu hub => ?_, fun I hI => ?_, hvars a (form_all hU.fa) hU.va, hvars b (form_all hU.fb) hU.vb⟩ (by omega) h0
          · rw [← sub_comp, ← hU.ea]
          · rw [← sub_comp, ← hU.eb]
          · have hne : (u : Int) ≠ v := fun e => hub (by rw [e]; exact List.mem_cons_self)
            rw [getD_map, hU.free u hu fun e => hub (List.mem_cons_of_mem _ e), subL_cons, subN_var, bindJ_get v0 v5 (by omega) (by omega), if_neg hne]
            rfl
          · unfold compL at hI
            obtain ⟨K, hK, rfl⟩ := List.mem_map.1 hI
            exact hvars K (form_all (hU.fI K hK)) (hU.vI K hK)

theorem law_uni {a b : List Nd} (h : uniCode a b = 0) :
    sbCode a (uniR a b) = 0 ∧ sbCode b (uniR a b) = 0 ∧ sbR a (uniR a b) = sbR b (uniR a b) ∧ (cpCode (uniR a b) (uniR a b) = 0 → cpR (uniR a b) (uniR a b) = uniR a b) ∧ (mtCode a b = 0 ∨ mtCode a b = 4) := by
  cases hf : form2 a b with
  | false => have := (uni_no hf).2; omega
  | true =>
    obtain ⟨e1, e2⟩ := uni_yes hf
    unfold form2 at hf
    have hab := (Bool.and_eq_true _ _).mp hf
    rw [e2] at h
    obtain ⟨c, Bd, hU⟩ := uni_good 7 a b (selfL 6) [] (uinv_start hab.1 hab.2) (by have := cntV_le (varL a ++ varL b); omega) h
    rw [← e1] at hU
    have hs : subsB (uniR a b) = true := subsB_iff.2 ⟨hU.h6, hU.fI⟩
    have hc := (form_len3 hU.fa).2
    obtain ⟨p1, p2⟩ := sb_yes hab.1 hs (by rw [← hU.ea]; exact hc)
    obtain ⟨q1, q2⟩ := sb_yes hab.2 hs (by rw [← hU.eb]; exact hc)
    refine ⟨p1, q1, by rw [p2, q2, ← hU.ea, ← hU.eb], fun h9 => ?_, ?_⟩
    · have hid : compL (uniR a b) (uniR a b) = uniR a b := by
        have : ∀ I ∈ uniR a b, subL (uniR a b) I = I := fun I hI => sub_id I (form_all (hU.fI I hI)) fun v hv => by
          have hn := List.all_eq_true.1 (form_all (hU.fI I hI)) _ hv
          obtain ⟨_, y5⟩ := node_var hn
          exact hU.free v (by omega) (hU.vI I hI _ (mem_varL.2 hv))
        unfold compL
        rw [List.map_congr_left this, List.map_id']
      unfold cpR
      rw [if_pos h9, hid]
    · rcases mt_cases a b with ⟨h1, _⟩ | ⟨_, _, h2, _⟩ | ⟨_, _, _, h2, _⟩
      · rw [hf] at h1; cases h1
      · exact .inr h2
      · exact .inl h2
theorem law_not {a b : List Nd} (h : uniCode a b = 4) : form2 a b = true ∧ a ≠ b := by
  cases hf : form2 a b with
  | false => have := (uni_no hf).2; omega
  | true =>
    refine ⟨rfl, fun e => ?_⟩
    subst e
    have h2 := (uni_yes hf).2
    rw [unif_done (.inl (by
      clear hf h h2
      induction a with
      | nil => simp [agree]
      | cons x a ih => simp [agree, ih]))] at h2
    simp only at h2
    omega
end Go.Proofs.Ytdpnkojchimmfaa
