/- Walks of JoinFormulas, of the program and of the reference. -/
import Derived.Test.YtkhbimdahjkgoaaJoin
namespace Go.Proofs.Ytkhbimdahjkgoaa
open Go.RowKit

set_option maxHeartbeats 1000000 in
theorem l02Pair_any (k : Int) (v u : Value) (ns bs : List Nd) (w : World) (h : Nodes w v ns) (hu : Nodes w u bs) (hp : 0 < ns.length) (hp' : 0 < bs.length) (hn : ns.length ≤ 1000) (hn' : bs.length ≤ 1000) :
    Calls Try.prog 70 #[.int .i64 k, v, u] w fun e w' => ∃ v', e = .returned v' ∧ w'.ownsRow w.heap.size 37 2 v' (1 + ns.length + bs.length) (cellsN ((k, 0) :: ns ++ bs)) ∧ Below w.heap.size w w' := by
  obtain ⟨i0, hi, hz0, hz1, hz2⟩ := info_parts info_node
  obtain ⟨c, b, o, rfl, hc, hcm, hcell⟩ := h.raw hp
  obtain ⟨c', b', o', rfl, hc', hcm', hcell'⟩ := hu.raw hp'
  have hlen := Lib.hid (cellsN_length ns)
  have hlen' := Lib.hid (cellsN_length bs)
  have hl0 := Lib.hid (World.ownsRow_lit (e := 37) (base := w.heap.size) (size := 2) w #[.int .i64 k, .int .i64 0] 1 (Nat.le_refl _) (by simp [maxLen]) rfl)
  have hba := Lib.hid ((Below.refl w.heap.size w).alloc (Nat.le_refl _) (.cells #[.int .i64 k, .int .i64 0] 37))
  have hsrc := Lib.hid (nodes_src (cells_below hcell.out hba.out (Nat.le_refl _)))
  have hone := Lib.hid (nodes_oneCell ns)
  have hone' := Lib.hid (nodes_oneCell bs)
  clear h hu
  generalize hm : ns.length = m at *
  generalize hm' : bs.length = m' at *
  have hm := Lib.hid hm
  have hm' := Lib.hid hm'
  go_enter Try.func70, Try.ntmps70
  go_wp2_with (at_builtin; first
    | (refine wpList_append_own _ rfl _ _ 27 rfl w.heap.size 37 i0 (.agg #[.int .i64 0, .int .i64 0]) 2 16 Try.underlying27 hi hz0 hz1 hz2 rfl (by decide) _ _ _ rfl hl0.out ⟨b, o, none⟩ m c (cellsN ns) rfl hlen.out hsrc.out hone.out (by unfold maxLen; omega) (by omega) (by simp) ?_; intro v1 w1 hown1 hgrow1 _; have hb1 := hba.out.grown hgrow1 (by simp) (fun j hj => (hl0.out.lt j hj).1); have hs1 := hb1.size; have hsrc' := Lib.hid (nodes_src (cells_below hcell'.out hb1 (Nat.le_refl _))); have hown1 := Lib.hid hown1)
    | (refine wpList_append_own _ rfl _ _ 27 rfl w.heap.size 37 i0 (.agg #[.int .i64 0, .int .i64 0]) 2 16 Try.underlying27 hi hz0 hz1 hz2 rfl (by decide) _ _ _ rfl (Hid.out ‹Hid (World.ownsRow w1 _ _ _ _ _ _)›) ⟨b', o', none⟩ m' c' (cellsN bs) rfl hlen'.out (Hid.out ‹Hid (∀ j q, (cellsN bs)[j]? = some q → World.cell? w1 _ = some q)›) hone'.out (by unfold maxLen; omega) (by omega) (by omega) ?_; intro v2 w2 hown2 hgrow2 _))
  go_ret
  refine ⟨v2, rfl, ?_, hb1.grown hgrow2 (by omega) (fun j hj => (hown1.out.lt j hj).1)⟩
  rw [← List.cons_append, cellsN_append]
  exact hown2


def joinCode (k : Int) (ns bs : List Nd) : Int := if (formB ns && formB bs) then (if ar k = 2 then (if 1 + ns.length + bs.length ≤ 40 then 0 else 3) else 2) else 1
def joinR (k : Int) (ns bs : List Nd) : List Nd := if joinCode k ns bs = 0 then (k, 0) :: ns ++ bs else []
theorem join_cases (k : Int) (ns bs : List Nd) : ((formB ns && formB bs) = false ∧ joinCode k ns bs = 1 ∧ joinR k ns bs = []) ∨ ((formB ns && formB bs) = true ∧ ¬ ar k = 2 ∧ joinCode k ns bs = 2 ∧ joinR k ns bs = []) ∨
    ((formB ns && formB bs) = true ∧ ar k = 2 ∧ 40 < 1 + ns.length + bs.length ∧ joinCode k ns bs = 3 ∧ joinR k ns bs = []) ∨ ((formB ns && formB bs) = true ∧ ar k = 2 ∧ 1 + ns.length + bs.length ≤ 40 ∧ joinCode k ns bs = 0 ∧ joinR k ns bs = (k, 0) :: ns ++ bs) := by
  unfold joinR joinCode
  cases (formB ns && formB bs) <;> by_cases h1 : ar k = 2 <;> by_cases h2 : 1 + ns.length + bs.length ≤ 40 <;> simp [h1, h2] <;> omega
theorem join_len (k : Int) (ns bs : List Nd) : ((k, (0 : Int)) :: ns ++ bs).length = 1 + ns.length + bs.length := by simp; omega
theorem joinR_length (k : Int) (ns bs : List Nd) : (joinR k ns bs).length ≤ 64 := by
  rcases join_cases k ns bs with h | h | h | h
  · rw [h.2.2]; simp
  · rw [h.2.2.2]; simp
  · rw [h.2.2.2.2]; simp
  · rw [h.2.2.2.2, join_len]; omega
theorem ar_two_iff (k : Int) : ar k = 2 ↔ inR k 2 4 = true := by
  rw [inR_iff]
  constructor
  · intro h; rcases ar_cases k with rfl | rfl | rfl | rfl | rfl | h' <;> first | omega | (simp [ar] at h; done) | (rw [ar_none h'] at h; cases h)
  · exact fun h => ar_two (by omega)


end Go.Proofs.Ytkhbimdahjkgoaa
