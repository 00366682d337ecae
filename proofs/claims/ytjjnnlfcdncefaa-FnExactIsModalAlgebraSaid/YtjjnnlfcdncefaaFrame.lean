/- Walks of the functions on frames and modal algebras as structs by value: copies, sizes, equality. -/
import Derived.Test.YtjjnnlfcdncefaaFuncs
import Derived.Test.YtjjnnlfcdncefaaInts
import Derived.Deep.RegionHeld3
namespace Go.Proofs.Ytjjnnlfcdncefaa
open Go.RowKit
set_option linter.unusedSimpArgs false

theorem bcell {W w1 : World} (hb : Below W.heap.size W w1) : (∀ b o, b < W.heap.size → w1.cell? ⟨b, o, none⟩ = W.cell? ⟨b, o, none⟩) ∧ (∀ b o, b < W.heap.size → w1.frozen? ⟨b, o, none⟩ = W.frozen? ⟨b, o, none⟩) :=
  ⟨fun b o h => hb.cell (p := ⟨b, o, none⟩) h, fun b o h => hb.frozen (p := ⟨b, o, none⟩) h⟩

/-- A row of one's own stays where a cell below its base is written. -/
theorem own_set_other {w : World} {B : Nat} {e : TypeId} {s : Nat} {v : Value} {n : Nat} {xs : List Value} {b o : Nat} {x : Value} (h : w.ownsRow B e s v n xs) (hb : b < B) : (w.setCell ⟨b, o, none⟩ x).ownsRow B e s v n xs := by
  refine h.kept (row := some b) ⟨rfl, rfl, rfl, by simp, fun j _ hne => Below.heap_setCell _ _ _ _ (by simpa using hne)⟩ ?_
  cases hv : v.ownBlock with
  | none => exact .inl rfl
  | some k =>
    right
    intro hc
    have h1 := (h.lt k hv).1
    injection hc with hc
    omega

/-- What is left of a bound behind a list of n elements. -/
def szRI (l : Int) (n : Nat) : Int := if l < n then -1 else l - n
theorem szRI_lt {l : Int} {n : Nat} (h : l < n) : szRI l n = -1 := if_pos h
theorem szRI_ge {l : Int} {n : Nat} (h : (n : Int) ≤ l) : szRI l n = l - n := if_neg (by omega)

theorem szInt64S_any (v : Value) (xs : List Int) (l : Int) (w : World) (h : Ints w v xs) (h0 : 0 ≤ l) (h1 : l ≤ 1048576) :
    Calls Try.prog 47 #[v, .int .i64 l] w fun e w' => e = .returned (.int .i64 (szRI l xs.length)) ∧ w = w' := by
  obtain ⟨hm, a, c, b, o, rfl, hc, _, _⟩ := h.opened
  unfold maxLen at hm
  clear h
  by_cases hlt : l < xs.length
  · have hf := Lib.hid (szRI_lt hlt)
    go_enter Try.func47, Try.ntmps47
    go_wp2_with fail
    go_ret
    exact ⟨ret_int hf.out.symm, rfl⟩
  · have hf := Lib.hid (szRI_ge (show (xs.length : Int) ≤ l by omega))
    go_enter Try.func47, Try.ntmps47
    go_wp2_with fail
    go_ret
    exact ⟨ret_int hf.out.symm, rfl⟩

/-- A struct of an integer and a list. -/
def Pair (w : World) (v : Value) (n : Int) (xs : List Int) : Prop := ∃ a c, v = .agg #[.int .i64 n, .slice a xs.length c] ∧ Ints w (.slice a xs.length c) xs
theorem Pair.below {w w' : World} {v : Value} {n : Int} {xs : List Int} {K : Nat} (h : Pair w v n xs) (hb : Below K w w') (hk : w.heap.size ≤ K) : Pair w' v n xs := by
  obtain ⟨a, c, hv, hi⟩ := h
  exact ⟨a, c, hv, hi.below hb hk⟩
theorem pair_of_own {w : World} {B : Nat} {e : TypeId} {v : Value} {n : Int} {xs : List Int} (h : w.ownsRow B e 1 v xs.length (xs.map (Value.int .i64))) : Pair w (.agg #[.int .i64 n, v]) n xs := by
  have hi := ints_of_own h
  obtain ⟨_, a, c, b, o, rfl, _⟩ := hi.opened
  exact ⟨a, c, rfl, hi⟩


theorem szFrame_any (v : Value) (n : Int) (xs : List Int) (l : Int) (w : World) (h : Pair w v n xs) (h0 : 0 ≤ l) (h1 : l ≤ 1048576) :
    Calls Try.prog 12 #[v, .int .i64 l] w fun e w' => e = .returned (.int .i64 (szRI l xs.length)) ∧ Below w.heap.size w w' := by
  obtain ⟨a, c, rfl, hi⟩ := h
  have hba := (Below.refl w.heap.size w).alloc (Nat.le_refl _) (.cells #[.int .i64 n, .slice a xs.length c] 24)
  have hi2 := Lib.hid (hi.below hba (Nat.le_refl _))
  by_cases hlt : l < xs.length
  · have hf := Lib.hid (szRI_lt hlt)
    go_enter Try.func12, Try.ntmps12
    go_wp2_with fail
    refine (szInt64S_any _ xs _ _ hi2.out h0 h1).mono ?_
    rintro e w' ⟨rfl, rfl⟩
    rw [hf.out]
    go_wp2_with fail
    go_ret
    exact ⟨ret_int hf.out.symm, hba⟩
  · have hge : (xs.length : Int) ≤ l := by omega
    have hf := Lib.hid (szRI_ge hge)
    go_enter Try.func12, Try.ntmps12
    go_wp2_with fail
    refine (szInt64S_any _ xs _ _ hi2.out h0 h1).mono ?_
    rintro e w' ⟨rfl, rfl⟩
    rw [hf.out]
    go_wp2_with fail
    go_ret
    exact ⟨ret_int hf.out.symm, hba⟩

set_option maxHeartbeats 800000 in
theorem toFrame_any (v : Value) (n : Int) (xs : List Int) (w : World) (h : Pair w v n xs) (hn : xs.length ≤ 1048576) :
    Calls Try.prog 14 #[v] w fun e w' => ∃ v', e = .returned (.agg #[.int .i64 n, v']) ∧ w'.ownsRow w.heap.size 2 1 v' xs.length (xs.map (Value.int .i64)) ∧ Below w.heap.size w w' := by
  obtain ⟨a, c, rfl, hi⟩ := h
  have hi := Lib.hid hi
  go_enter Try.func14, Try.ntmps14
  go_wp2_with fail
  have hb0 := Lib.hid ((((Below.refl w.heap.size w).alloc (Nat.le_refl _) (.cells #[.int .i64 n, .slice a xs.length c] 24)).alloc (by simp) (.cells #[.int .i64 0, .slice none 0 0] 27)).alloc (by simp; omega) (.cells #[.int .i64 n, .slice none 0 0] 27))
  refine (toInt64S_any _ xs _ (hi.out.below hb0.out (Nat.le_refl _)) hn).mono ?_
  rintro e w1 ⟨v', rfl, ho, b1⟩
  obtain ⟨hc, hf⟩ := bcell b1
  have hz : w.heap.size + 2 < w1.heap.size := by have := b1.size; simp at this; omega
  obtain ⟨_, a2, c2, bb2, o2, rfl, _⟩ := (ints_of_own ho).opened
  have ho := Lib.hid ho
  have b1 := Lib.hid b1
  go_wp2_with fail
  have hB := b1.out.size
  refine bodyPost_ret (v := .agg #[.int .i64 n, .slice a2 xs.length c2]) (by simp [results, Try.results14, go_sem, hc, hz]) rfl ⟨_, rfl, ?_, ?_⟩
  · refine own_mono (own_set_other (own_set_other (own_set_other ho.out ?_) ?_) ?_) (by simp; omega) <;> (simp; try omega)
  · exact (((hb0.out.trans (b1.out.mono (by simp; omega))).setCell (by simp; omega) _).setCell (by simp) _).setCell (by simp) _

theorem eqFrame_same (v u : Value) (n : Int) (xs : List Int) (w : World) (h : Pair w v n xs) (h' : Pair w u n xs) :
    Calls Try.prog 16 #[v, u] w fun e w' => e = .returned (.bool true) ∧ Below w.heap.size w w' := by
  obtain ⟨a, c, rfl, hi⟩ := h
  obtain ⟨a', c', rfl, hi'⟩ := h'
  have hb0 := (((Below.refl w.heap.size w).alloc (Nat.le_refl _) (.cells #[.int .i64 n, .slice a xs.length c] 27)).alloc (by simp) (.cells #[.int .i64 n, .slice a' xs.length c'] 27))
  have h1 := Lib.hid (hi.below hb0 (Nat.le_refl _))
  have h2 := Lib.hid (hi'.below hb0 (Nat.le_refl _))
  have hb0 := Lib.hid hb0
  go_enter Try.func16, Try.ntmps16
  go_wp2_with fail
  refine (eqInt64S_same _ _ xs _ h1.out h2.out).mono ?_
  rintro e w1 ⟨rfl, b1⟩
  go_wp2_with fail
  go_ret
  exact ⟨rfl, hb0.out.trans (b1.mono (by simp; omega))⟩

theorem szModalAlgebra_any (v : Value) (n : Int) (xs : List Int) (l : Int) (w : World) (h : Pair w v n xs) (h0 : 0 ≤ l) (h1 : l ≤ 1048576) :
    Calls Try.prog 17 #[v, .int .i64 l] w fun e w' => e = .returned (.int .i64 (szRI l xs.length)) ∧ Below w.heap.size w w' := by
  obtain ⟨a, c, rfl, hi⟩ := h
  have hba := (Below.refl w.heap.size w).alloc (Nat.le_refl _) (.cells #[.int .i64 n, .slice a xs.length c] 32)
  have hi2 := Lib.hid (hi.below hba (Nat.le_refl _))
  by_cases hlt : l < xs.length
  · have hf := Lib.hid (szRI_lt hlt)
    go_enter Try.func17, Try.ntmps17
    go_wp2_with fail
    refine (szInt64S_any _ xs _ _ hi2.out h0 h1).mono ?_
    rintro e w' ⟨rfl, rfl⟩
    rw [hf.out]
    go_wp2_with fail
    go_ret
    exact ⟨ret_int hf.out.symm, hba⟩
  · have hge : (xs.length : Int) ≤ l := by omega
    have hf := Lib.hid (szRI_ge hge)
    go_enter Try.func17, Try.ntmps17
    go_wp2_with fail
    refine (szInt64S_any _ xs _ _ hi2.out h0 h1).mono ?_
    rintro e w' ⟨rfl, rfl⟩
    rw [hf.out]
    go_wp2_with fail
    go_ret
    exact ⟨ret_int hf.out.symm, hba⟩

set_option maxHeartbeats 800000 in
theorem toModalAlgebra_any (v : Value) (n : Int) (xs : List Int) (w : World) (h : Pair w v n xs) (hn : xs.length ≤ 1048576) :
    Calls Try.prog 19 #[v] w fun e w' => ∃ v', e = .returned (.agg #[.int .i64 n, v']) ∧ w'.ownsRow w.heap.size 2 1 v' xs.length (xs.map (Value.int .i64)) ∧ Below w.heap.size w w' := by
  obtain ⟨a, c, rfl, hi⟩ := h
  have hi := Lib.hid hi
  go_enter Try.func19, Try.ntmps19
  go_wp2_with fail
  have hb0 := Lib.hid ((((Below.refl w.heap.size w).alloc (Nat.le_refl _) (.cells #[.int .i64 n, .slice a xs.length c] 32)).alloc (by simp) (.cells #[.int .i64 0, .slice none 0 0] 35)).alloc (by simp; omega) (.cells #[.int .i64 n, .slice none 0 0] 35))
  refine (toInt64S_any _ xs _ (hi.out.below hb0.out (Nat.le_refl _)) hn).mono ?_
  rintro e w1 ⟨v', rfl, ho, b1⟩
  obtain ⟨hc, hf⟩ := bcell b1
  have hz : w.heap.size + 2 < w1.heap.size := by have := b1.size; simp at this; omega
  obtain ⟨_, a2, c2, bb2, o2, rfl, _⟩ := (ints_of_own ho).opened
  have ho := Lib.hid ho
  have b1 := Lib.hid b1
  go_wp2_with fail
  have hB := b1.out.size
  refine bodyPost_ret (v := .agg #[.int .i64 n, .slice a2 xs.length c2]) (by simp [results, Try.results19, go_sem, hc, hz]) rfl ⟨_, rfl, ?_, ?_⟩
  · refine own_mono (own_set_other (own_set_other (own_set_other ho.out ?_) ?_) ?_) (by simp; omega) <;> (simp; try omega)
  · exact (((hb0.out.trans (b1.out.mono (by simp; omega))).setCell (by simp; omega) _).setCell (by simp) _).setCell (by simp) _

theorem eqModalAlgebra_same (v u : Value) (n : Int) (xs : List Int) (w : World) (h : Pair w v n xs) (h' : Pair w u n xs) :
    Calls Try.prog 21 #[v, u] w fun e w' => e = .returned (.bool true) ∧ Below w.heap.size w w' := by
  obtain ⟨a, c, rfl, hi⟩ := h
  obtain ⟨a', c', rfl, hi'⟩ := h'
  have hb0 := (((Below.refl w.heap.size w).alloc (Nat.le_refl _) (.cells #[.int .i64 n, .slice a xs.length c] 35)).alloc (by simp) (.cells #[.int .i64 n, .slice a' xs.length c'] 35))
  have h1 := Lib.hid (hi.below hb0 (Nat.le_refl _))
  have h2 := Lib.hid (hi'.below hb0 (Nat.le_refl _))
  have hb0 := Lib.hid hb0
  go_enter Try.func21, Try.ntmps21
  go_wp2_with fail
  refine (eqInt64S_same _ _ xs _ h1.out h2.out).mono ?_
  rintro e w1 ⟨rfl, b1⟩
  go_wp2_with fail
  go_ret
  exact ⟨rfl, hb0.out.trans (b1.mono (by simp; omega))⟩

/-- Whether a struct is a frame. -/
def frameB (n : Int) (xs : List Int) : Bool := inR n 0 8 && (((xs.length : Int) == n) && relB xs)
theorem frame_cases (n : Int) (xs : List Int) : (inR n 0 8 = false ∧ frameB n xs = false) ∨ (inR n 0 8 = true ∧ ((xs.length : Int) == n) = false ∧ frameB n xs = false) ∨ (inR n 0 8 = true ∧ ((xs.length : Int) == n) = true ∧ frameB n xs = relB xs) := by
  unfold frameB
  cases inR n 0 8 <;> cases ((xs.length : Int) == n) <;> simp

set_option maxHeartbeats 1600000 in
theorem isFrame_any (v : Value) (n : Int) (xs : List Int) (w : World) (h : Pair w v n xs) :
    Calls Try.prog 49 #[v] w fun e w' => e = .returned (.bool (frameB n xs)) ∧ Below w.heap.size w w' := by
  obtain ⟨a, c, rfl, hi⟩ := h
  have hba := (Below.refl w.heap.size w).alloc (Nat.le_refl _) (.cells #[.int .i64 n, .slice a xs.length c] 27)
  have hi := Lib.hid hi
  rcases frame_cases n xs with ⟨h1, h2⟩ | ⟨h1, h3, h2⟩ | ⟨h1, h3, h2⟩
  · have hin := Lib.hid (fun w' => show Calls Try.prog 76 #[.int .i64 n, .int .i64 0, .int .i64 8] w' fun e w'' => e = .returned (.bool false) ∧ w' = w'' from by rw [← h1]; exact inRange_any _ _ _ _)
    have hf := Lib.hid h2
    clear h1 h2
    go_enter Try.func49, Try.ntmps49
    go_wp2_with fail
    go_quiet (first | (go_at_call 76; exact quiet_eq (hin.out _)))
    go_wp2_with fail
    go_ret
    exact ⟨ret_bool hf.out.symm, below_drewN hba _⟩
  all_goals
    have hin := Lib.hid (fun w' => show Calls Try.prog 76 #[.int .i64 n, .int .i64 0, .int .i64 8] w' fun e w'' => e = .returned (.bool true) ∧ w' = w'' from by rw [← h1]; exact inRange_any _ _ _ _)
    have hsz := Lib.hid (fun w' (hb : Below w.heap.size w w') => sizeI_any (.slice a xs.length c) xs w' (hi.out.below hb (Nat.le_refl _)))
    have hre := Lib.hid (fun w' (hb : Below w.heap.size w w') => isRelation_any (.slice a xs.length c) xs w' (hi.out.below hb (Nat.le_refl _)))
    have hf := Lib.hid h2
    clear h1 h2
  · go_enter Try.func49, Try.ntmps49
    go_wp2_with fail
    go_quiet (first | (go_at_call 76; exact quiet_eq (hin.out _)) | (go_at_call 79; exact quiet_eq (hsz.out _ (below_drewN hba _))))
    go_wp2_with fail
    go_ret
    exact ⟨ret_bool hf.out.symm, below_drewN hba _⟩
  · go_enter Try.func49, Try.ntmps49
    go_wp2_with fail
    have hx0 : (w.alloc (.cells #[.int .i64 n, .slice a xs.length c] 27)).cell? ⟨w.heap.size, 0, none⟩ = some (.int .i64 n) := by rw [World.cell?_alloc_at _ _ _ _ rfl]; rfl
    have hx1 : (w.alloc (.cells #[.int .i64 n, .slice a xs.length c] 27)).cell? ⟨w.heap.size, 1, none⟩ = some (.slice a xs.length c) := by rw [World.cell?_alloc_at _ _ _ _ rfl]; rfl
    generalize w.alloc (.cells #[.int .i64 n, .slice a xs.length c] 27) = W0 at *
    go_region_held3 (fun W => Below w.heap.size w W ∧ W.cell? ⟨w.heap.size, 0, none⟩ = some (.int .i64 n) ∧ W.cell? ⟨w.heap.size, 1, none⟩ = some (.slice a xs.length c)) (first | (refine ⟨?_, ?_, ?_⟩ <;> (first | assumption | (exact Below.drew (by assumption)))) | assumption | (obtain ⟨hs1, hs2, hs3⟩ := ‹Below _ _ _ ∧ _ ∧ _›; exact ⟨keep_step (by assumption) hs1, keep_cell (by assumption) hs2, keep_cell (by assumption) hs3⟩)) (first | (go_at_call 76; refine (hin.out _).mono ?_; rintro e w' ⟨rfl, rfl⟩) | (go_at_call 79; refine (hsz.out _ (And.left ‹Below w.heap.size w _ ∧ _ ∧ _›)).mono ?_; rintro e w' ⟨rfl, rfl⟩) | (go_at_call 80; refine (hre.out _ (And.left ‹Below w.heap.size w _ ∧ _ ∧ _›)).mono ?_; rintro e w' ⟨rfl, hb'⟩))
    all_goals
      go_wp2_with fail
      go_ret
      exact ⟨ret_bool hf.out.symm, by first | assumption | exact (‹Below w.heap.size w _ ∧ _ ∧ _›).1⟩

theorem implIsFrame_any (v : Value) (n : Int) (xs : List Int) (w : World) (h : Pair w v n xs) :
    Calls Try.prog 15 #[v] w fun e w' => e = .returned (.bool (frameB n xs)) ∧ Below w.heap.size w w' := by
  obtain ⟨a, c, rfl, hi⟩ := h
  have hba := (Below.refl w.heap.size w).alloc (Nat.le_refl _) (.cells #[.int .i64 n, .slice a xs.length c] 27)
  have hp := Lib.hid (show Pair (w.alloc (.cells #[.int .i64 n, .slice a xs.length c] 27)) (.agg #[.int .i64 n, .slice a xs.length c]) n xs from ⟨a, c, rfl, hi.below hba (Nat.le_refl _)⟩)
  have hba := Lib.hid hba
  go_enter Try.func15, Try.ntmps15
  go_wp2_with fail
  refine (isFrame_any _ n xs _ hp.out).mono ?_
  rintro e w1 ⟨rfl, b1⟩
  go_wp2_with fail
  go_ret
  exact ⟨rfl, hba.out.trans (b1.mono (by simp))⟩

set_option maxHeartbeats 800000 in
theorem l05Is_any (v : Value) (n : Int) (xs : List Int) (w : World) (h : Pair w v n xs) :
    Calls Try.prog 48 #[v] w fun e w' => e = .returned (.bool (frameB n xs)) ∧ Below w.heap.size w w' := by
  obtain ⟨a, c, rfl, hi⟩ := h
  have hba := (Below.refl w.heap.size w).alloc (Nat.le_refl _) (.cells #[.int .i64 n, .slice a xs.length c] 27)
  have hm := hi.cap
  unfold maxLen at hm
  have hi := Lib.hid (hi.below hba (Nat.le_refl _))
  have hba := Lib.hid hba
  rcases frame_cases n xs with ⟨h1, h2⟩ | ⟨h1, h3, h2⟩ | ⟨h1, h3, h2⟩
  · have hf := Lib.hid h2
    have hin := Lib.hid h1
    clear h1 h2
    go_enter Try.func48, Try.ntmps48
    go_wp2_with fail
    refine (l01In_any _ _ _ _).mono ?_
    rintro e w' ⟨rfl, rfl⟩
    rw [hin.out]
    go_wp2_with fail
    go_ret
    exact ⟨ret_bool hf.out.symm, hba.out⟩
  · have hf := Lib.hid h2
    have hin := Lib.hid h1
    clear h1 h2
    go_enter Try.func48, Try.ntmps48
    go_wp2_with fail
    refine (l01In_any _ _ _ _).mono ?_
    rintro e w' ⟨rfl, rfl⟩
    rw [hin.out]
    go_wp2_with fail
    go_ret
    exact ⟨ret_bool hf.out.symm, hba.out⟩
  · obtain ⟨n0, n8⟩ := inR_iff.1 h1
    have hne : (xs.length : Int) = n := by simpa using h3
    have hma := Lib.hid (show ∀ w' v', Ints w' v' xs → Calls Try.prog 78 #[.int .i64 n, v'] w' fun e w'' => e = .returned (.bool (relB xs)) ∧ Below w'.heap.size w' w'' from fun w' v' hh => by
      have := l01Masks_any n n0 (by omega) v' xs w' hh
      unfold relB; rw [hne]; exact this)
    have hf := Lib.hid h2
    have hin := Lib.hid h1
    clear h1 h2 hne
    go_enter Try.func48, Try.ntmps48
    go_wp2_with fail
    refine (l01In_any _ _ _ _).mono ?_
    rintro e w' ⟨rfl, rfl⟩
    rw [hin.out]
    go_wp2_with fail
    refine (hma.out _ _ hi.out).mono ?_
    rintro e w1 ⟨rfl, b1⟩
    go_wp2_with fail
    go_ret
    exact ⟨ret_bool hf.out.symm, hba.out.trans (b1.mono (by simp))⟩

theorem specIsFrame_any (v : Value) (n : Int) (xs : List Int) (w : World) (h : Pair w v n xs) :
    Calls Try.prog 13 #[v] w fun e w' => e = .returned (.bool (frameB n xs)) ∧ Below w.heap.size w w' := by
  obtain ⟨a, c, rfl, hi⟩ := h
  have hba := (Below.refl w.heap.size w).alloc (Nat.le_refl _) (.cells #[.int .i64 n, .slice a xs.length c] 27)
  have hp := Lib.hid (show Pair (w.alloc (.cells #[.int .i64 n, .slice a xs.length c] 27)) (.agg #[.int .i64 n, .slice a xs.length c]) n xs from ⟨a, c, rfl, hi.below hba (Nat.le_refl _)⟩)
  have hba := Lib.hid hba
  go_enter Try.func13, Try.ntmps13
  go_wp2_with fail
  refine (l05Is_any _ n xs _ hp.out).mono ?_
  rintro e w1 ⟨rfl, b1⟩
  go_wp2_with fail
  go_ret
  exact ⟨rfl, hba.out.trans (b1.mono (by simp))⟩
end Go.Proofs.Ytjjnnlfcdncefaa
