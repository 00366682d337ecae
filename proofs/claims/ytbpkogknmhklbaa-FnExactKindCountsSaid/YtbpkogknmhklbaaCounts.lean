/- Walks of KindCounts, of the program and of the reference. -/
import Derived.Test.YtbpkogknmhklbaaVars
namespace Go.Proofs.Ytbpkogknmhklbaa
open Go.RowKit

/-- One node counted. -/
def cntStep (zs : List Int) (n : Nd) : List Int := zs.set n.1.toNat ((zs[n.1.toNat]?).getD 0 + 1)
def cnts (ns : List Nd) : List Int := ns.foldl cntStep (List.replicate 7 0)
def countsR (ns : List Nd) : List Int := if formB ns then cnts ns else []

theorem cnts_succ (ns : List Nd) (k X : Nat) (y z : Int) (hx : ns[k]? = some ((X : Int), y)) (hz : (cnts (ns.take k))[X]? = some z) : cnts (ns.take (k + 1)) = (cnts (ns.take k)).set X (z + 1) := by
  have e : ns.take (k + 1) = ns.take k ++ [((X : Int), y)] := by
    rw [List.take_add_one, hx]; rfl
  rw [e]
  unfold cnts at *
  rw [List.foldl_append]
  show cntStep _ _ = _
  simp only [cntStep, Int.toNat_natCast, hz, Option.getD_some]

theorem cnts_length (ns : List Nd) : (cnts ns).length = 7 := by
  suffices hh : ∀ (ns : List Nd) (zs : List Int), (ns.foldl cntStep zs).length = zs.length from hh ns _
  intro ns
  induction ns with
  | nil => intro zs; rfl
  | cons n ns ih => intro zs; rw [List.foldl_cons, ih]; simp [cntStep]

theorem countsR_length (ns : List Nd) : (countsR ns).length ≤ 64 := by
  unfold countsR
  split
  · rw [cnts_length]; omega
  · simp

theorem set_bound {zs : List Int} {X k : Nat} {z : Int} (h : ∀ (i : Nat) (u : Int), zs[i]? = some u → 0 ≤ u ∧ u ≤ (k : Int)) (hz : zs[X]? = some z) : ∀ (i : Nat) (u : Int), (zs.set X (z + 1))[i]? = some u → 0 ≤ u ∧ u ≤ ((k + 1 : Nat) : Int) := by
  intro i u hu
  have h1 := h X z hz
  rw [List.getElem?_set] at hu
  split at hu
  · split at hu
    · have := Option.some.inj hu; omega
    · exact absurd hu (by simp)
  · have := h i u hu; omega

theorem rep_bound : ∀ (i : Nat) (u : Int), (List.replicate 7 (0 : Int))[i]? = some u → 0 ≤ u ∧ u ≤ ((0 : Nat) : Int) := by
  intro i u hu
  have := List.mem_of_getElem? hu
  simp only [List.mem_replicate] at this
  omega

/-- Element i of an owned row of numbers is written. -/
theorem own_set {w : World} {B : Nat} {e : TypeId} {g n cap i : Nat} {zs : List Int} {x : Int}
    (h : w.ownsRow B e 1 (.slice (some ⟨g, 0, none⟩) n cap) n (zs.map (Value.int .i64))) :
    (w.setCell ⟨g, i, none⟩ (.int .i64 x)).ownsRow B e 1 (.slice (some ⟨g, 0, none⟩) n cap) n ((zs.set i x).map (Value.int .i64)) := by
  have := (h.stored i (.int .i64 x)).1
  rw [← List.map_set] at this
  exact this

theorem form_len {ns : List Nd} (h : formB ns = true) : ns.length ≤ 40 := by
  simp only [formB, Bool.and_eq_true, decide_eq_true_eq] at h
  exact h.1.1.2

set_option maxHeartbeats 800000 in
theorem specKindCounts_any (v : Value) (ns : List Nd) (w : World) (h : Nodes w v ns) :
    Calls Try.prog 22 #[v] w fun e w' => ∃ v, e = .returned (.tuple #[v, .int .i64 (formCode ns)]) ∧ w'.ownsRow w.heap.size 2 1 v (countsR ns).length ((countsR ns).map (Value.int .i64)) ∧ Below w.heap.size w w' := by
  have hv := Lib.hid h
  obtain ⟨hm, a, c, b, o, rfl, hc, h0, hcell⟩ := h.opened
  unfold maxLen at hm
  clear h
  cases hB : formB ns
  · have h1 := Lib.hid (show formCode ns = 1 by simp [formCode, hB])
    have h2 := Lib.hid (show countsR ns = [] by simp [countsR, hB])
    clear h0
    go_enter Try.func22, Try.ntmps22
    go_wp2_with fail
    refine (l02Is_any _ ns _ hv.out).mono ?_
    rintro e w' ⟨rfl, rfl⟩
    go_wp2_with fail
    go_ret2
    exact ⟨_, by rw [h1.out]; rfl, by rw [h2.out]; exact World.ownsRow_nil _ _ _ _, Below.refl _ _⟩
  · have h1 := Lib.hid (show formCode ns = 0 by simp [formCode, hB])
    have h2 := Lib.hid (show countsR ns = cnts ns by simp [countsR, hB])
    have hg := Lib.hid (form_all hB)
    have hl40 := form_len hB
    have hmk : ∀ w : World, (Instr.makeSlice 33 (.int .i64 7) (.int .i64 7)).run Try.prog w = .ok (.slice (some ⟨w.heap.size, 0, none⟩) 7 7) (w.alloc (.cells (madeCells (Value.int .i64 0).cells (7 * 1)) 2)) := fun _ => by kernel_rfl
    obtain ⟨i0, hi, hz0, hz1, hz2⟩ := info_parts info_i64
    rcases h0 with h0 | ⟨h0, rfl⟩
    all_goals
      go_enter Try.func22, Try.ntmps22
      go_wp2_with fail
      refine (l02Is_any _ ns _ hv.out).mono ?_
      rintro e w' ⟨rfl, rfl⟩
      go_wp2_with (first | (at_make; refine wpList_make_full _ rfl _ _ 33 rfl w.heap.size 2 i0 (.int .i64 0) 1 Try.underlying33 hi hz0 hz1 _ _ _ _ 7 rfl rfl rfl rfl (by rw [hz2]; omega) (by unfold maxLen; omega) (Nat.le_refl _) ?_; intro w1 hown hgr; clear hi hz0 hz1 hz2) | go_in)
      rw [made_ints] at hown
      go_loopw [5] (fun i wr => ∃ (k : Nat) (zs : List Int), k ≤ ns.length ∧ i = .int .i64 k ∧ Hid (zs = cnts (ns.take k)) ∧ Hid (∀ (i : Nat) (u : Int), zs[i]? = some u → 0 ≤ u ∧ u ≤ (k : Int)) ∧ wr.ownsRow w.heap.size 2 1 (.slice (some ⟨w.heap.size, 0, none⟩) 7 7) 7 (zs.map (Value.int .i64)) ∧ Below w.heap.size w wr) (fun i _ => ns.length - (intOf i).toNat)
      case atStart => exact ⟨0, _, Nat.zero_le _, rfl, rfl, rep_bound, hown, below_of_grownBy hgr (Nat.le_refl _) (by simp)⟩
      case round =>
        obtain ⟨k, zs, hk, rfl, hzs, hbd, ho, hb⟩ := hrel
        by_cases hlt : k < ns.length
        · all_goals try (exfalso; omega)
          all_goals
            obtain ⟨x, y, hx, hcx, hcy⟩ := hcell.out k hlt
            have lx := World.block_lt_of_cell? w _ hcx
            have hcx := (hb.cell (p := ⟨b, o + k * 2, none⟩) lx).trans hcx
            obtain ⟨hx0, hx6, hy0, hy5⟩ := nodeB_bound hg.out hx
            obtain ⟨X, rfl⟩ := Int.eq_ofNat_of_zero_le hx0
            have hx := Lib.hid hx
            have hX : X < 7 := by omega
            obtain ⟨⟨z, hz, hcz⟩, hfz⟩ := own_cell ho hX
            obtain ⟨hb0, hb1⟩ := hbd.out X z hz
            have hset := Lib.hid (set_bound hbd.out hz)
            have hcn := Lib.hid (show zs.set X (z + 1) = cnts (ns.take (k + 1)) by rw [hzs.out] at hz ⊢; exact (cnts_succ ns k X y z hx.out hz).symm)
            have hz := Lib.hid hz
            have ho := Lib.hid ho
            clear hcy
            go_wp2
            go_region
            all_goals
              go_wp2
              go_roundw
              case rel => exact ⟨k + 1, _, by omega, by go_num, hcn.out, hset.out, own_set ho.out, Below.drew (hb.setCell (Nat.le_refl _) _)⟩
              case measure => simp [intOf]; omega
        · obtain rfl : k = ns.length := by omega
          have ho := Lib.hid ho
          have h3 := Lib.hid (show cnts ns = zs by rw [hzs.out, List.take_length])
          have h4 := Lib.hid (cnts_length ns)
          go_wp2
          go_ret2
          exact ⟨_, by rw [h1.out]; rfl, by rw [h2.out, h4.out, h3.out]; exact ho.out, hb⟩

set_option maxHeartbeats 800000 in
theorem implKindCounts_any (v : Value) (ns : List Nd) (w : World) (h : Nodes w v ns) :
    Calls Try.prog 23 #[v] w fun e w' => ∃ v, e = .returned (.tuple #[v, .int .i64 (formCode ns)]) ∧ w'.ownsRow w.heap.size 2 1 v (countsR ns).length ((countsR ns).map (Value.int .i64)) ∧ Below w.heap.size w w' := by
  have hv := Lib.hid h
  obtain ⟨hm, a, c, b, o, rfl, hc, h0, hcell⟩ := h.opened
  unfold maxLen at hm
  clear h
  cases hB : formB ns
  · have h1 := Lib.hid (show formCode ns = 1 by simp [formCode, hB])
    have h2 := Lib.hid (show countsR ns = [] by simp [countsR, hB])
    clear h0
    go_enter Try.func23, Try.ntmps23
    go_wp2_with fail
    refine (isFormula_any _ ns _ hv.out).mono ?_
    rintro e w' ⟨rfl, hb⟩
    go_wp2_with fail
    go_ret2
    exact ⟨_, by rw [h1.out]; rfl, by rw [h2.out]; exact World.ownsRow_nil _ _ _ _, hb⟩
  · have h1 := Lib.hid (show formCode ns = 0 by simp [formCode, hB])
    have h2 := Lib.hid (show countsR ns = cnts ns by simp [countsR, hB])
    have hg := Lib.hid (form_all hB)
    have hl40 := form_len hB
    obtain ⟨i0, hi, hz0, hz1, hz2⟩ := info_parts info_i64
    rcases h0 with h0 | ⟨h0, rfl⟩
    all_goals
      go_enter Try.func23, Try.ntmps23
      go_wp2_with fail
      refine (isFormula_any _ ns _ hv.out).mono ?_
      rintro e w0 ⟨rfl, hb00⟩
      have hs0 := hb00.size
      go_wp2_with (first | (at_make; refine wpList_make_full _ rfl _ _ 33 rfl w0.heap.size 2 i0 (.int .i64 0) 1 Try.underlying33 hi hz0 hz1 _ _ _ _ 7 rfl rfl rfl rfl (by rw [hz2]; omega) (by unfold maxLen; omega) (Nat.le_refl _) ?_; intro w1 hown hgr; clear hi hz0 hz1 hz2) | go_in)
      rw [made_ints] at hown
      have hb01 := below_of_grownBy hgr (Nat.le_refl _) (by simp)
      have hs01 := hb01.size
      go_loopw [13] (fun i wr => ∃ (k : Nat) (zs : List Int), k ≤ ns.length ∧ i = .int .i64 k ∧ Hid (zs = cnts (ns.take k)) ∧ Hid (∀ (i : Nat) (u : Int), zs[i]? = some u → 0 ≤ u ∧ u ≤ (k : Int)) ∧ wr.ownsRow w0.heap.size 2 1 (.slice (some ⟨w0.heap.size, 0, none⟩) 7 7) 7 (zs.map (Value.int .i64)) ∧ Below w0.heap.size w0 wr) (fun i _ => ns.length - (intOf i).toNat)
      case atStart => exact ⟨0, _, Nat.zero_le _, rfl, rfl, rep_bound, hown, hb01⟩
      case round =>
        obtain ⟨k, zs, hk, rfl, hzs, hbd, ho, hb⟩ := hrel
        by_cases hlt : k < ns.length
        · all_goals try (exfalso; omega)
          all_goals
            obtain ⟨x, y, hx, hcx, hcy⟩ := hcell.out k hlt
            have lx := World.block_lt_of_cell? w _ hcx
            have hcx := (hb.cell (p := ⟨b, o + k * 2, none⟩) (Nat.lt_of_lt_of_le lx hs0)).trans ((hb00.cell (p := ⟨b, o + k * 2, none⟩) lx).trans hcx)
            have hcy := (hb.cell (p := ⟨b, o + k * 2 + 1, none⟩) (Nat.lt_of_lt_of_le lx hs0)).trans ((hb00.cell (p := ⟨b, o + k * 2 + 1, none⟩) lx).trans hcy)
            obtain ⟨hx0, hx6, hy0, hy5⟩ := nodeB_bound hg.out hx
            obtain ⟨X, rfl⟩ := Int.eq_ofNat_of_zero_le hx0
            have hx := Lib.hid hx
            have hX : X < 7 := by omega
            obtain ⟨⟨z, hz, hcz⟩, hfz⟩ := own_cell ho hX
            obtain ⟨hb0, hb1⟩ := hbd.out X z hz
            have hset := Lib.hid (set_bound hbd.out hz)
            have hcn := Lib.hid (show zs.set X (z + 1) = cnts (ns.take (k + 1)) by rw [hzs.out] at hz ⊢; exact (cnts_succ ns k X y z hx.out hz).symm)
            have hz := Lib.hid hz
            have ho := Lib.hid ho
            have hgl := (World.block_lt_of_cell? wr _ hcz)
            have hs := hb.size
            go_wp2
            go_roundw
            case rel => exact ⟨k + 1, _, by omega, by go_num, hcn.out, hset.out, (own_set ho.out).alloc _, (hb.setCell (Nat.le_refl _) _).alloc (by simpa using hs) _⟩
            case measure => simp [intOf]; omega
        · obtain rfl : k = ns.length := by omega
          have ho := Lib.hid ho
          have h3 := Lib.hid (show cnts ns = zs by rw [hzs.out, List.take_length])
          have h4 := Lib.hid (cnts_length ns)
          go_wp2
          go_ret2
          exact ⟨_, by rw [h1.out]; rfl, by rw [h2.out, h4.out, h3.out]; exact own_mono ho.out hs0, hb00.trans (hb.mono hs0)⟩
end Go.Proofs.Ytbpkogknmhklbaa
