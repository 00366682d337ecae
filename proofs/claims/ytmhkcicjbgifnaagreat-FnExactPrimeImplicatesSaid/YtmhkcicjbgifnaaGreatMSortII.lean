/- slices.SortFunc at a row of lists of integers, with slices.Compare, by the shelf's contract. -/
import Derived.Test.YtmhkcicjbgifnaaGreatMCmpI
import Derived.Test.YtmhkcicjbgifnaaGreatMShelf
import Derived.Lib.OwnBridge
import Derived.Lib.RowBridge

namespace Go.Proofs.YtmhkcicjbgifnaaGreat
open Go.RowKit Go.Sort Go.Lib
set_option linter.unusedVariables false

theorem grownBy_grow (w : World) (os : Array Obj) (row : Option Nat) : w.grownBy (grow w os) row := ⟨rfl, rfl, rfl, by simp, fun k hk _ => heap_grow_old w os hk⟩
theorem grownBy_putRow {α : Type} [Inhabited α] (enc : α → Value) (w : World) (g n : Nat) (d : Array α) : w.grownBy (putRow enc (Sort.ahead w n) g 0 d) (some g) :=
  ⟨rfl, rfl, rfl, by simp, fun k hk hne => by
    have : g ≠ k := fun e => hne (by rw [e])
    simp [putRow, mapBlock, Sort.ahead, Array.getElem?_modify, this]⟩
theorem grownBy_sortW {α : Type} [Inhabited α] (enc : α → Value) (w : World) (g n : Nat) (d : Array α) (os : Array Obj) : w.grownBy (sortWorld enc w g 0 n d os) (some g) := by
  have h1 := grownBy_putRow enc w g n d
  have h2 := grownBy_grow (putRow enc (Sort.ahead w n) g 0 d) os none
  exact h1.andThen h2 (fun j hj => by cases hj)

/-- What is sorted: slices that read, and do not lie in block g. -/
abbrev SlOk (w : World) (g : Nat) : Type := {s : SlI // Ints w (slVI s) s.2 ∧ (slVI s).ownBlock ≠ some g}
theorem ints_nil (w : World) : Ints w (.slice none 0 0) [] := ⟨rfl, by simp, none, 0, 0, 0, rfl, Nat.le_refl _, by simp, by simp⟩
instance (w : World) (g : Nat) : Inhabited (SlOk w g) := ⟨⟨nilSlI, ints_nil w, by simp [slVI, nilSlI, Value.ownBlock]⟩⟩
def encOk {w : World} {g : Nat} (x : SlOk w g) : Value := slVI x.1
def cfOk {w : World} {g : Nat} (x y : SlOk w g) : Int := cmpI x.1.2 y.1.2
theorem cfOk_lt {w : World} {g : Nat} (x y : SlOk w g) : ltOf cfOk x y = decide (ltI x.1.2 y.1.2) := by
  unfold ltOf cfOk
  rw [Bool.eq_iff_iff, decide_eq_true_eq, decide_eq_true_eq]
  exact cmpI_neg
theorem swo_ok (w : World) (g : Nat) : SWO (ltOf (cfOk (w := w) (g := g))) where
  irrefl := fun x => by rw [cfOk_lt]; exact decide_eq_false (lo_lists.irr _)
  trans := fun x y z h1 h2 => by
    rw [cfOk_lt, decide_eq_true_eq] at *
    exact lo_lists.tr _ _ _ h1 h2
  ntrans := fun x y z h1 h2 => by
    rw [cfOk_lt, decide_eq_false_iff_not] at *
    exact List.not_lt.2 (List.le_trans (List.not_lt.1 h2) (List.not_lt.1 h1))

theorem sortFuncII_any (B : Nat) (v : Value) (ss : List SlI) (w : World) (h : w.ownsRow B 48 1 v ss.length (ss.map slVI)) (hr : ∀ s ∈ ss, Ints w (slVI s) s.2) (hne : ∀ s ∈ ss, ∀ k, v.ownBlock = some k → (slVI s).ownBlock ≠ some k) (hl : ss.length < 4611686018427387904) :
    Calls Tryz.prog 23 #[v, .func (.func 24) #[] #[]] w fun e w' => e = .returned (.tuple #[]) ∧ ∃ ss' : List SlI, ss'.Perm ss ∧ (ss'.map (·.2)).Pairwise (fun a b => ¬ ltI b a) ∧ w'.ownsRow B 48 1 v ss.length (ss'.map slVI) ∧ w.grownBy w' v.ownBlock := by
  by_cases hv : v = .slice none 0 0
  · subst hv
    have h0 : ss = [] := by
      rcases h.2 with ⟨_, h0⟩ | ⟨g, cap, cur, hv, _⟩
      · exact List.eq_nil_of_length_eq_zero h0
      · cases hv
    subst h0
    refine (sh_slices_SortFunc_none (α := Int) none 0 _ w).mono ?_
    rintro e w' ⟨rfl, rfl⟩
    exact ⟨rfl, [], List.Perm.refl _, List.Pairwise.nil, h, World.grownBy.refl _ _⟩
  · obtain ⟨g, cap, rfl, hB, hg, hcap, hmax, _, _⟩ := holds_of_ownsRow h hv
    have hok : ∀ s ∈ ss, Ints w (slVI s) s.2 ∧ (slVI s).ownBlock ≠ some g := fun s hs => ⟨hr s hs, hne s hs g rfl⟩
    obtain ⟨zs, hzs⟩ : ∃ zs : List (SlOk w g), zs.map Subtype.val = ss := ⟨ss.attachWith _ hok, List.attachWith_map_subtype_val _⟩
    have hzl : zs.length = ss.length := by rw [← hzs, List.length_map]
    have hze : zs.map encOk = ss.map slVI := by rw [← hzs, List.map_map]; rfl
    rw [← hze] at h
    obtain ⟨g', cap', hv', _, _, _, _, _, hH⟩ := holds_of_ownsRow h hv
    cases hv'
    have hsz : zs.toArray.size = ss.length := by simpa using hzl
    have key := sh_slices_SortFunc (α := SlOk w g) encOk ?one cfOk (swo_ok w g) 24 #[] g 0 cap zs.toArray w (enters_of Tryz.func24 (by kernel_rfl) rfl) ?lays hH hg (by rw [hsz]; exact hl)
    case one => exact fun x => by simp [encOk, slVI, Value.oneCell']
    case lays =>
      intro m os dk _ x y
      have hgw := grownBy_sortW encOk w g m dk os
      have hx := ints_grown x.2.1 hgw (fun k hk hk2 => x.2.2 (hk2.trans hk.symm))
      have hy := ints_grown y.2.1 hgw (fun k hk hk2 => y.2.2 (hk2.trans hk.symm))
      refine (compareI_any (encOk x) (encOk y) x.1.2 y.1.2 _ hx hy).mono ?_
      rintro e w' ⟨rfl, rfl⟩
      exact ⟨rfl, 0, #[], by rw [grow_empty]; rfl⟩
    rw [hsz] at key
    refine key.mono ?_
    rintro e w' ⟨rfl, d', n, os, hp, hs, rfl⟩
    have hd' : d'.size = ss.length := by rw [hp.1, hsz]
    have hperm : d'.toList.Perm zs := by
      have h1 := hp.2.2
      rw [Array.extract_eq_self_of_le (by omega), Array.extract_eq_self_of_le (by omega)] at h1
      exact h1
    refine ⟨rfl, d'.toList.map Subtype.val, by rw [← hzs]; exact hperm.map _, ?_, ?_, grownBy_sortW encOk w g n d' os⟩
    · rw [List.map_map, List.pairwise_map, List.pairwise_iff_getElem]
      intro i j hi hj hij
      have h1 := hs i j (Nat.zero_le _) hij (by simp at hj; omega)
      rw [cfOk_lt, decide_eq_false_iff_not] at h1
      simp only [Array.length_toList] at hi hj
      rw [getElem!_pos d' i hi, getElem!_pos d' j hj] at h1
      simpa using h1
    · have h2 := ownsRow_putRow (enc := encOk) (q := n) (k := ss.length) (ys := d'.toList) h (by simpa using hd') (Nat.le_refl _)
      rw [List.take_of_length_le (by simp; omega), Array.toArray_toList] at h2
      have h3 := h2.kept (grownBy_grow _ os none) (.inr (by simp [Value.ownBlock]))
      rw [List.map_map]
      exact h3
end Go.Proofs.YtmhkcicjbgifnaaGreat
