/- The program's own IsGuarded: by induction on the formula's tree. -/
import Derived.Test.YtbpkogknmhklbaaGuard
import Derived.Test.YtbpkogknmhklbaaKids
import Derived.Deep.QuietTactic
import Derived.BigQuiet
import Derived.Deep.RegionHeld3
namespace Go.Proofs.Ytbpkogknmhklbaa
open Go.RowKit Go.Deep

/-- guardT, told of the nodes themselves: k parts are still to be passed over. -/
def gL (u : Int) : List Nd → Nat → Bool
  | [], _ => true
  | n :: l, k + 1 => gL u l (k + ar n.1)
  | n :: l, 0 => if modalB n.1 then gL u l 1 else (!(decide (n.1 = 0) && decide (n.2 = u)) && gL u l 0)

theorem gL_over (u : Int) (t : Tr) (h : okT t) (l : List Nd) (k : Nat) : gL u (flat t ++ l) (k + 1) = gL u l k := by
  induction t generalizing l k with
  | nil => exact h.elim
  | node _ _ n a b iha ihb =>
    simp only [flat, List.cons_append, gL, List.append_assoc]
    rcases h with ⟨h1, rfl, rfl⟩ | ⟨h1, h2, rfl⟩ | ⟨h1, h2, h3⟩
    · rw [h1]; simp [flat]
    · rw [h1, iha h2]; simp [flat]
    · rw [h1, show k + 2 = (k + 1) + 1 by omega, iha h2, ihb h3]

theorem gL_flat (u : Int) (t : Tr) (h : okT t) (l : List Nd) : gL u (flat t ++ l) 0 = (guardT u t && gL u l 0) := by
  induction t generalizing l with
  | nil => exact h.elim
  | node b o n a c iha ihb =>
    simp only [flat, List.cons_append, gL, List.append_assoc, guardT]
    rcases h with ⟨h1, rfl, rfl⟩ | ⟨h1, h2, rfl⟩ | ⟨h1, h2, h3⟩
    · have hm : modalB n.1 = false := modal_no (by rcases ar_cases n.1 with h | h | h | h | h | h' <;> first | omega | (rw [h] at h1; simp [ar] at h1))
      simp [hm, flat, guardT]
    · have hm : modalB n.1 = true := modal_yes (by rcases ar_cases n.1 with h | h | h | h | h | h' <;> first | omega | (rw [h] at h1; simp [ar] at h1; done) | (rw [ar_none h'] at h1; cases h1))
      simp only [hm, if_true, Bool.true_or, Bool.true_and]
      rw [show (1 : Nat) = 0 + 1 by rfl, gL_over u a h2]
      simp [flat]
    · have hm : modalB n.1 = false := modal_no (by rcases ar_cases n.1 with h | h | h | h | h | h' <;> first | omega | (rw [h] at h1; simp [ar] at h1))
      simp only [hm, Bool.false_or]
      rw [if_neg (by simp), iha h2, ihb h3]
      simp [Bool.and_assoc]

theorem gL_tree (u : Int) (t : Tr) (h : okT t) : gL u (flat t) 0 = guardT u t := by
  have := gL_flat u t h []
  simpa [gL] using this

/-- The function value that isGuarded hands to slices.ContainsFunc. -/
theorem guarded1_pred (u : Int) (ss : List Sl) (bx : Nat) (w : World) (hx : w.cell? ⟨bx, 0, none⟩ = some (.int .i64 u))
    (hs : ∀ s ∈ ss, Nodes w (slV s) s.2)
    (ih : ∀ s ∈ ss, ∀ W, Nodes W (slV s) s.2 → Calls Try.prog 52 #[slV s, .int .i64 u] W fun e W' => e = .returned (.bool (gL u s.2 0)) ∧ Below W.heap.size W W') :
    Pred Try.prog 84 #[.pointer (some ⟨bx, 0, none⟩)] slV ss (fun s => !gL u s.2 0) w := by
  intro W s hm hb hsz
  have hc := Lib.hid (ih s hm W ((hs s hm).below hb (Nat.le_refl _)))
  have hx := (hb.cell (p := ⟨bx, 0, none⟩) (World.block_lt_of_cell? w _ hx)).trans hx
  obtain ⟨⟨a, n, c⟩, ns⟩ := s
  unfold slV at *
  show Calls Try.prog 84 #[.slice a n c, .pointer (some ⟨bx, 0, none⟩)] W _
  go_enter Try.func84, Try.ntmps84
  go_wp2_with fail
  refine hc.out.mono ?_
  rintro e w' ⟨rfl, hb'⟩
  go_wp2_with fail
  go_ret
  exact ⟨rfl, hb'⟩

theorem kids_all (u : Int) (ss : List Sl) (b o : Nat) (n : Nd) (l r : Tr) (hok : okT (.node b o n l r)) (hm : modalB n.1 = false) (h : ss.map (·.2) = (kidsT (.node b o n l r)).map flat) :
    (!(ss.any fun s => !gL u s.2 0)) = (guardT u l && guardT u r) := by
  rw [not_any]
  have e : ss.all (fun s => gL u s.2 0) = (ss.map (·.2)).all (fun ns => gL u ns 0) := by rw [List.all_map]; rfl
  rw [e, h]
  rcases hok with ⟨h1, rfl, rfl⟩ | ⟨h1, h2, rfl⟩ | ⟨h1, h2, h3⟩
  · simp [kidsT, h1, guardT]
  · rw [modal_yes ((by rcases ar_cases n.1 with h | h | h | h | h | h' <;> first | omega | (rw [h] at h1; simp [ar] at h1; done) | (rw [ar_none h'] at h1; cases h1)))] at hm; cases hm
  · simp [kidsT, h1, gL_tree u l h2, gL_tree u r h3]

theorem kids_ih (u : Int) (ss : List Sl) (b o : Nat) (n : Nd) (l r : Tr) (hok : okT (.node b o n l r)) (hn : (flat (.node b o n l r)).length ≤ 1000000) (h : ss.map (·.2) = (kidsT (.node b o n l r)).map flat)
    (ihl : ∀ (v : Value) (w : World), okT l → Nodes w v (flat l) → (flat l).length ≤ 1000000 → Calls Try.prog 52 #[v, .int .i64 u] w fun e w' => e = .returned (.bool (guardT u l)) ∧ Below w.heap.size w w')
    (ihr : ∀ (v : Value) (w : World), okT r → Nodes w v (flat r) → (flat r).length ≤ 1000000 → Calls Try.prog 52 #[v, .int .i64 u] w fun e w' => e = .returned (.bool (guardT u r)) ∧ Below w.heap.size w w') :
    ∀ s ∈ ss, ∀ W, Nodes W (slV s) s.2 → Calls Try.prog 52 #[slV s, .int .i64 u] W fun e W' => e = .returned (.bool (gL u s.2 0)) ∧ Below W.heap.size W W' := by
  intro s hs W hW
  have hm : s.2 ∈ (kidsT (.node b o n l r)).map flat := by rw [← h]; exact List.mem_map_of_mem hs
  have hlen : (flat (.node b o n l r)).length = 1 + (flat l).length + (flat r).length := by simp [flat]; omega
  rcases hok with ⟨h1, rfl, rfl⟩ | ⟨h1, h2, rfl⟩ | ⟨h1, h2, h3⟩
  · simp [kidsT, h1] at hm
  · simp [kidsT, h1] at hm
    rw [hm] at hW ⊢
    rw [gL_tree u l h2]
    exact ihl _ _ h2 hW (by omega)
  · simp [kidsT, h1] at hm
    rcases hm with hm | hm
    · rw [hm] at hW ⊢
      rw [gL_tree u l h2]
      exact ihl _ _ h2 hW (by omega)
    · rw [hm] at hW ⊢
      rw [gL_tree u r h3]
      exact ihr _ _ h3 hW (by omega)

theorem guard_modal {u : Int} {b o : Nat} {x y : Int} {l r : Tr} (h : modalB x = true) : guardT u (.node b o (x, y) l r) = true := by simp [guardT, h]
theorem guard_own {u : Int} {b o : Nat} {x y : Int} {l r : Tr} (hm : modalB x = false) (h : x = 0 ∧ y = u) : guardT u (.node b o (x, y) l r) = false := by obtain ⟨rfl, rfl⟩ := h; simp [guardT, hm]
theorem guard_kids {u : Int} {b o : Nat} {x y : Int} {l r : Tr} (hm : modalB x = false) (h : ¬ (x = 0 ∧ y = u)) : guardT u (.node b o (x, y) l r) = (guardT u l && guardT u r) := by
  have : (!(decide (x = 0) && decide (y = u))) = true := by by_cases h1 : x = 0 <;> by_cases h2 : y = u <;> simp_all
  simp only [guardT, hm, this, Bool.false_or, Bool.true_and]

set_option maxHeartbeats 2000000 in
theorem isGuarded_any (u : Int) (t : Tr) : ∀ (v : Value) (w : World), okT t → Nodes w v (flat t) → (flat t).length ≤ 1000000 →
    Calls Try.prog 52 #[v, .int .i64 u] w fun e w' => e = .returned (.bool (guardT u t)) ∧ Below w.heap.size w w' := by
  induction t with
  | nil => intro v w h; exact h.elim
  | node b0 o0 n l r ihl ihr =>
    intro v w hok h hn
    obtain ⟨x, y⟩ := n
    have hv := Lib.hid h
    have hokh := Lib.hid hok
    have hlen := Lib.hid hn
    have hih := Lib.hid (fun ss hss => kids_ih u ss b0 o0 (x, y) l r hok hn hss ihl ihr)
    have hka := Lib.hid (fun ss hm hss => kids_all u ss b0 o0 (x, y) l r hok hm hss)
    have heg := Lib.hid (enters_of Try.func84 (by kernel_rfl) rfl)
    obtain ⟨c, b, o, rfl, hc, hcm, hcell⟩ := h.raw (by simp [flat])
    obtain ⟨hc0, hc1⟩ := node_head hcell.out
    simp only at hc0 hc1
    have hp0 : 0 < (flat (.node b0 o0 (x, y) l r)).length := by simp [flat]
    have hpa := Lib.hid (fun W (hb : Below w.heap.size w W) => parts_any _ _ W hok (hv.out.below hb (Nat.le_refl _)) hn)
    clear h hcm hcell ihl ihr hok hn
    generalize (flat (.node b0 o0 (x, y) l r)).length = m at *
    have lx := World.block_lt_of_cell? w _ hc0
    cases hm : modalB x
    · by_cases he : x = 0 ∧ y = u
      · have hf := Lib.hid (guard_own (b := b0) (o := o0) (l := l) (r := r) hm he)
        have hmh := Lib.hid hm
        obtain ⟨rfl, rfl⟩ := he
        clear hm
        go_enter Try.func52, Try.ntmps52
        go_wp2_with fail
        refine (isModal_any _ _).mono ?_
        rintro e w' ⟨rfl, rfl⟩
        rw [hmh.out]
        go_wp2_with fail
        go_quiet (fail)
        go_wp2_with fail
        go_ret
        exact ⟨ret_bool hf.out.symm, ((Below.refl _ _).alloc (Nat.le_refl _) _).trans (below_drewN' _ _)⟩
      · have hf := Lib.hid (guard_kids (b := b0) (o := o0) (l := l) (r := r) hm he)
        have hmh := Lib.hid hm
        clear hm
        have hor : (x = 0 ∧ (y == u) = false) ∨ (x == 0) = false := by
          by_cases h1 : x = 0
          · exact .inl ⟨h1, by rw [beq_eq_false_iff_ne]; exact fun h2 => he ⟨h1, h2⟩⟩
          · exact .inr (by rw [beq_eq_false_iff_ne]; exact h1)
        clear he
        have hor2 := Lib.hid hor
        clear hor
        all_goals
          go_enter Try.func52, Try.ntmps52
          go_wp2_with fail
          refine (isModal_any _ _).mono ?_
          rintro e w' ⟨rfl, rfl⟩
          rw [hmh.out]
          go_wp2_with fail
          have hb0 := (Below.refl w.heap.size w).alloc (Nat.le_refl _) (.cells #[.int .i64 u] 2)
          have hx0 := (hb0.cell (p := ⟨b, o, none⟩) lx).trans hc0
          have hx1 := (hb0.cell (p := ⟨b, o + 1, none⟩) lx).trans hc1
          have hx2 : (w.alloc (.cells #[.int .i64 u] 2)).cell? ⟨w.heap.size, 0, none⟩ = some (.int .i64 u) := by rw [World.cell?_alloc_at _ _ _ _ rfl]; rfl
          generalize w.alloc (.cells #[.int .i64 u] 2) = W0 at *
          rcases hor2.out with ⟨hxe, hye⟩ | hye
          all_goals go_region_held3 (fun W => Below w.heap.size w W ∧ W.cell? ⟨b, o, none⟩ = some (.int .i64 x) ∧ W.cell? ⟨b, o + 1, none⟩ = some (.int .i64 y) ∧ W.cell? ⟨w.heap.size, 0, none⟩ = some (.int .i64 u)) (first | (refine ⟨?_, ?_, ?_, ?_⟩ <;> (first | assumption | (exact Below.drew (by assumption)))) | assumption | (obtain ⟨hs1, hs2, hs3, hs4⟩ := ‹Below _ _ _ ∧ _ ∧ _ ∧ _›; exact ⟨Below.drew hs1, hs2, hs3, hs4⟩) | (obtain ⟨hs1, hs2, hs3, hs4⟩ := ‹Below _ _ _ ∧ _ ∧ _ ∧ _›; exact ⟨keep_step (by assumption) hs1, keep_cell (by assumption) hs2, keep_cell (by assumption) hs3, keep_cell (by assumption) hs4⟩)) (first | (go_at_call 81; refine (hpa.out _ (And.left ‹Below w.heap.size w _ ∧ _ ∧ _ ∧ _›)).mono ?_; rintro e w' ⟨vp, ss, rfl, hss, hsn, hsm, hb'⟩) | (go_at_call 83; refine (containsFuncS_any _ _ heg.out _ ss (fun s => !gL u s.2 0) _ hss (guarded1_pred u ss w.heap.size _ (And.right (And.right (And.right ‹Below w.heap.size w _ ∧ _ ∧ _ ∧ _›))) hsn (hih.out ss hsm))).mono ?_; rintro e w' ⟨rfl, hb'⟩))
          all_goals
            go_wp2_with fail
            go_ret
            exact ⟨ret_bool ((hka.out ss hmh.out hsm).trans hf.out.symm), by first | assumption | exact (‹Below w.heap.size w _ ∧ _ ∧ _ ∧ _›).1⟩
    · have hf := Lib.hid (guard_modal (u := u) (b := b0) (o := o0) (y := y) (l := l) (r := r) hm)
      have hmh := Lib.hid hm
      clear hm
      go_enter Try.func52, Try.ntmps52
      go_wp2_with fail
      refine (isModal_any _ _).mono ?_
      rintro e w' ⟨rfl, rfl⟩
      rw [hmh.out]
      go_wp2_with fail
      go_ret
      exact ⟨ret_bool hf.out.symm, (Below.refl _ _).alloc (Nat.le_refl _) _⟩

theorem implIsGuarded_any (v : Value) (ns : List Nd) (u : Int) (w : World) (h : Nodes w v ns) :
    Calls Try.prog 29 #[v, .int .i64 u] w fun e w' => e = .returned (.tuple #[.bool (guardR ns u), .int .i64 (codeV ns u)]) ∧ Below w.heap.size w w' := by
  have hv := Lib.hid h
  clear h
  have hcode := Lib.hid (variableCode_any v ns u w hv.out)
  by_cases h0 : codeV ns u = 0
  · have hf : formB ns = true := by rcases codeV_cases ns u with h | h | h <;> first | exact h.1 | (exfalso; omega)
    have hr := Lib.hid (show guardR ns u = guardT u (treeOf ns) by simp [guardR, h0])
    obtain ⟨hok, hfl⟩ := treeOf_spec hf
    have hl : ns.length ≤ 40 := by simp only [formB, Bool.and_eq_true, decide_eq_true_eq] at hf; omega
    have hg := Lib.hid (fun w1 (hb : Below w.heap.size w w1) => isGuarded_any u (treeOf ns) v w1 hok (by rw [hfl]; exact hv.out.below hb (Nat.le_refl _)) (by rw [hfl]; omega))
    have hc := Lib.hid h0
    clear h0 hf hfl hok
    go_enter Try.func29, Try.ntmps29
    go_wp2_with fail
    refine hcode.out.mono ?_
    rintro e w1 ⟨rfl, hb1⟩
    rw [hc.out]
    go_wp2_with fail
    refine (hg.out _ hb1).mono ?_
    rintro e w2 ⟨rfl, hb2⟩
    go_wp2_with fail
    go_ret2
    exact ⟨by rw [hr.out, hc.out]; rfl, hb1.trans (hb2.mono hb1.size)⟩
  · have hr := Lib.hid (show guardR ns u = false by simp [guardR, h0])
    have hne : (codeV ns u != 0) = true := by simpa using h0
    clear h0
    go_enter Try.func29, Try.ntmps29
    go_wp2_with fail
    refine hcode.out.mono ?_
    rintro e w1 ⟨rfl, hb1⟩
    go_wp2_with fail
    go_ret2
    exact ⟨by rw [hr.out]; rfl, hb1⟩

theorem specIsGuarded_any (v : Value) (ns : List Nd) (u : Int) (w : World) (h : Nodes w v ns) :
    Calls Try.prog 28 #[v, .int .i64 u] w fun e w' => e = .returned (.tuple #[.bool (guardR ns u), .int .i64 (codeV ns u)]) ∧ Below w.heap.size w w' :=
  (specIsGuarded_same v ns u w h).mono fun _ _ ⟨he, hw⟩ => ⟨he, hw ▸ Below.refl _ _⟩
end Go.Proofs.Ytbpkogknmhklbaa
