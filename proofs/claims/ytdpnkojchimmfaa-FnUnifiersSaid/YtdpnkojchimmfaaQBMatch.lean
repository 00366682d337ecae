/- MatchFormula: the plain law. -/
import Derived.Test.YtdpnkojchimmfaaQBComposeTwo
import Derived.Test.YtdpnkojchimmfaaQBOccurM

namespace Go.Proofs.Ytdpnkojchimmfaa
open Go.RowKit

/-- The images that are known. -/
abbrev Im := List (Option (List Nd))
def mGo (b : List Nd) : List Nd → Nat → Im → Option Im
  | [], _, M => some M
  | (x, y) :: r, t, M => if x = 0 then
      match M.getD y.toNat none with
      | some d => if d = partL b t then mGo b r (t + (partL b t).length) (M.set y.toNat (some (partL b t))) else none
      | none => mGo b r (t + (partL b t).length) (M.set y.toNat (some (partL b t)))
    else if b[t]? = some (x, y) then mGo b r (t + 1) M else none
def noIm : Im := List.replicate 6 none
def finM (M : Im) : List (List Nd) := (List.range 6).map fun i => (M.getD i none).getD [((0 : Int), ((i : Nat) : Int))]
def mtOpt (a b : List Nd) : Option Im := mGo b a 0 noIm
def mtCode (a b : List Nd) : Int := if form2 a b then (match mtOpt a b with | some _ => 0 | none => 4) else 1
def mtR (a b : List Nd) : List (List Nd) := if form2 a b then (match mtOpt a b with | some M => finM M | none => []) else []

theorem drop_cons {a : List Nd} {k : Nat} {n : Nd} (h : a[k]? = some n) : a.drop k = n :: a.drop (k + 1) := by
  have hk : k < a.length := (List.getElem?_eq_some_iff.1 h).1
  rw [List.drop_eq_getElem_cons hk]
  congr 1
  simpa [hk] using h

theorem mGo_end {a b : List Nd} {k t : Nat} {M : Im} (h : a.length ≤ k) : mGo b (a.drop k) t M = some M := by
  rw [List.drop_of_length_le h]; rfl
theorem mGo_node {a b : List Nd} {k t : Nat} {M : Im} {x y : Int} (h : a[k]? = some (x, y)) (hx : x ≠ 0) : mGo b (a.drop k) t M = if b[t]? = some (x, y) then mGo b (a.drop (k + 1)) (t + 1) M else none := by
  rw [drop_cons h]
  show (if x = 0 then _ else _) = _
  rw [if_neg hx]
theorem mGo_new {a b : List Nd} {k t u m : Nat} {M : Im} (h : a[k]? = some (0, (u : Int))) (hM : M[u]? = some none) (hm : (partL b t).length = m) : mGo b (a.drop k) t M = mGo b (a.drop (k + 1)) (t + m) (M.set u (some (partL b t))) := by
  rw [drop_cons h]
  show (if (0 : Int) = 0 then _ else _) = _
  rw [if_pos rfl, Int.toNat_natCast, List.getD_eq_getElem?_getD, hM, ← hm]; rfl
theorem mGo_old {a b : List Nd} {k t u m : Nat} {M : Im} {d : List Nd} (h : a[k]? = some (0, (u : Int))) (hM : M[u]? = some (some d)) (hm : (partL b t).length = m) : mGo b (a.drop k) t M = if d = partL b t then mGo b (a.drop (k + 1)) (t + m) (M.set u (some (partL b t))) else none := by
  rw [drop_cons h]
  show (if (0 : Int) = 0 then _ else _) = _
  rw [if_pos rfl, Int.toNat_natCast, List.getD_eq_getElem?_getD, hM, ← hm]; rfl

/-- How far both formulas are open. -/
def Open2 (a b : List Nd) (k t : Nat) : Prop := ∃ o, skip (a.drop k) o = some [] ∧ skip (b.drop t) o = some []
theorem open2_start {a b : List Nd} (ha : formB a = true) (hb : formB b = true) : Open2 a b 0 0 := by
  simp only [formB, Bool.and_eq_true, decide_eq_true_eq] at ha hb
  exact ⟨1, by rw [List.drop_zero]; exact ha.2, by rw [List.drop_zero]; exact hb.2⟩
theorem open2_pos {a b : List Nd} {k t : Nat} (h : Open2 a b k t) (hk : k < a.length) : t < b.length := by
  obtain ⟨o, h1, h2⟩ := h
  apply Nat.lt_of_not_le
  intro hle
  rw [List.drop_of_length_le hle] at h2
  cases o with
  | zero =>
    rw [skip_zero] at h1
    have := congrArg List.length (Option.some.inj h1)
    simp at this; omega
  | succ o => rw [skip_nil] at h2; cases h2
theorem open2_end {a b : List Nd} {t : Nat} (h : Open2 a b a.length t) (ht : t ≤ b.length) : t = b.length := by
  obtain ⟨o, h1, h2⟩ := h
  rw [List.drop_length] at h1
  cases o with
  | zero =>
    rw [skip_zero] at h2
    have := congrArg List.length (Option.some.inj h2)
    simp at this; omega
  | succ o => rw [skip_nil] at h1; cases h1
theorem open2_some {a b : List Nd} {k t : Nat} (h : Open2 a b k t) (hk : k < a.length) : ∃ o, skip (a.drop k) (o + 1) = some [] ∧ skip (b.drop t) (o + 1) = some [] := by
  obtain ⟨o, h1, h2⟩ := h
  cases o with
  | zero =>
    rw [skip_zero] at h1
    have := congrArg List.length (Option.some.inj h1)
    simp at this; omega
  | succ o => exact ⟨o, h1, h2⟩
theorem open2_node {a b : List Nd} {k t : Nat} {x y : Int} (h : Open2 a b k t) (ha : a[k]? = some (x, y)) (hb : b[t]? = some (x, y)) : Open2 a b (k + 1) (t + 1) := by
  obtain ⟨o, h1, h2⟩ := open2_some h (List.getElem?_eq_some_iff.1 ha).1
  rw [skip_next ha] at h1
  rw [skip_next hb] at h2
  exact ⟨_, h1, h2⟩
theorem open2_part {a b : List Nd} {k t m : Nat} {y : Int} (h : Open2 a b k t) (ha : a[k]? = some (0, y)) (hm : partEndL b t = ((t + m : Nat) : Int)) (htm : t + m ≤ b.length) : Open2 a b (k + 1) (t + m) := by
  obtain ⟨o, h1, h2⟩ := open2_some h (List.getElem?_eq_some_iff.1 ha).1
  rw [skip_next ha] at h1
  have e : ar 0 = 0 := rfl
  rw [e, Nat.add_zero] at h1
  refine ⟨o, h1, ?_⟩
  rw [Nat.add_comm, skip_add] at h2
  unfold partEndL at hm
  cases hs : skip (b.drop t) 1 with
  | none => rw [hs] at h2; cases h2
  | some r =>
    rw [hs] at h2 hm
    obtain ⟨p, hp, _⟩ := skip_suffix _ _ _ hs
    have hl := congrArg List.length hp
    rw [List.length_drop, List.length_append] at hl
    have hr : r.length = b.length - (t + m) := by
      simp only at hm
      omega
    have hd : b.drop (t + m) = r := by
      have h3 : p.length = m := by omega
      rw [← List.drop_drop, hp, ← h3, List.drop_left]
    rw [hd]
    exact h2

theorem finM_length (M : Im) : (finM M).length = 6 := by simp [finM]
def smIm (M : Im) : Prop := M.length = 6 ∧ ∀ d, some d ∈ M → d.length ≤ 40
theorem smIm_none : smIm noIm := ⟨rfl, fun d hd => by
  have := List.eq_of_mem_replicate hd
  cases this⟩
theorem smIm_set {M : Im} {u : Nat} {d : List Nd} (h : smIm M) (h2 : d.length ≤ 40) : smIm (M.set u (some d)) := by
  refine ⟨by rw [List.length_set]; exact h.1, fun e he => ?_⟩
  rcases List.mem_or_eq_of_mem_set he with he | he
  · exact h.2 e he
  · obtain rfl := Option.some.inj he
    exact h2
theorem partL_le {b : List Nd} (hb : b.length ≤ 40) (t : Nat) : (partL b t).length ≤ 40 := by
  unfold partL
  rw [List.length_take, List.length_drop]
  omega
theorem mGo_small {b : List Nd} (hb : b.length ≤ 40) : ∀ (r : List Nd) (t : Nat) (M R : Im), smIm M → mGo b r t M = some R → smIm R
  | [], t, M, R, hM, h => by
    have : M = R := Option.some.inj h
    subst this
    exact hM
  | (x, y) :: r, t, M, R, hM, h => by
    have hs := smIm_set (u := y.toNat) hM (partL_le hb t)
    unfold mGo at h
    split at h
    · split at h
      · split at h
        · exact mGo_small hb r _ _ R hs h
        · cases h
      · exact mGo_small hb r _ _ R hs h
    · split at h
      · exact mGo_small hb r _ _ R hM h
      · cases h
theorem finM_tot {M : Im} (h : smIm M) : tot (finM M) ≤ 240 := by
  have h1 : ∀ I ∈ finM M, I.length ≤ 40 := by
    intro I hI
    obtain ⟨i, _, rfl⟩ := List.mem_map.1 hI
    rw [List.getD_eq_getElem?_getD]
    cases hg : M[i]? with
    | none => simp
    | some o =>
      cases o with
      | none => simp
      | some d => exact h.2 d (List.mem_of_getElem? hg)
  have h2 := tot_le h1
  rw [finM_length] at h2
  exact h2
theorem mtR_tot (a b : List Nd) : tot (mtR a b) ≤ 240 := by
  unfold mtR
  split
  · rename_i hf
    split
    · rename_i M hM
      have hb : b.length ≤ 40 := by
        unfold form2 at hf
        exact (form_len3 ((Bool.and_eq_true _ _).mp hf).2).2
      exact finM_tot (mGo_small hb _ _ _ _ smIm_none hM)
    · simp [tot]
  · simp [tot]
end Go.Proofs.Ytdpnkojchimmfaa
