/- SchemesOf, of both (written by gensch.py). -/
import Derived.Test.YtfedipeabbaccaaSchemes
namespace Go.Proofs.Ytfedipeabbaccaa
open Go.RowKit

def schR (s : ByteArray) : List Int := if s.toList = [73, 110, 116] then upTo 9 ++ [] else if s.toList = [67, 76] then upTo 10 ++ [] else if s.toList = [75] then upTo 13 ++ [] else if s.toList = [68] then upTo 13 ++ [17] else if s.toList = [84] then upTo 13 ++ [13] else if s.toList = [75, 52] then upTo 13 ++ [14] else if s.toList = [83, 52] then upTo 13 ++ [13, 14] else if s.toList = [83, 53] then upTo 13 ++ [13, 15] else if s.toList = [75, 66] then upTo 13 ++ [16] else if s.toList = [71, 76] then upTo 13 ++ [18] else []
def schCode (s : ByteArray) : Int := if schR s = [] then 2 else 0
theorem sch_cases (s : ByteArray) : (s.toList = [73, 110, 116] ∧ schR s = upTo 9 ++ []) ∨ (s.toList = [67, 76] ∧ schR s = upTo 10 ++ []) ∨ (s.toList = [75] ∧ schR s = upTo 13 ++ []) ∨ (s.toList = [68] ∧ schR s = upTo 13 ++ [17]) ∨ (s.toList = [84] ∧ schR s = upTo 13 ++ [13]) ∨ (s.toList = [75, 52] ∧ schR s = upTo 13 ++ [14]) ∨ (s.toList = [83, 52] ∧ schR s = upTo 13 ++ [13, 14]) ∨ (s.toList = [83, 53] ∧ schR s = upTo 13 ++ [13, 15]) ∨ (s.toList = [75, 66] ∧ schR s = upTo 13 ++ [16]) ∨ (s.toList = [71, 76] ∧ schR s = upTo 13 ++ [18]) ∨ ((s.toList == [73, 110, 116]) = false ∧ (s.toList == [67, 76]) = false ∧ (s.toList == [75]) = false ∧ (s.toList == [68]) = false ∧ (s.toList == [84]) = false ∧ (s.toList == [75, 52]) = false ∧ (s.toList == [83, 52]) = false ∧ (s.toList == [83, 53]) = false ∧ (s.toList == [75, 66]) = false ∧ (s.toList == [71, 76]) = false ∧ schR s = []) := by
  unfold schR
  by_cases h0 : s.toList = [73, 110, 116]
  · left; exact ⟨h0, by simp [h0]⟩
  by_cases h1 : s.toList = [67, 76]
  · right; left; exact ⟨h1, by simp [h1]⟩
  by_cases h2 : s.toList = [75]
  · right; right; left; exact ⟨h2, by simp [h2]⟩
  by_cases h3 : s.toList = [68]
  · right; right; right; left; exact ⟨h3, by simp [h3]⟩
  by_cases h4 : s.toList = [84]
  · right; right; right; right; left; exact ⟨h4, by simp [h4]⟩
  by_cases h5 : s.toList = [75, 52]
  · right; right; right; right; right; left; exact ⟨h5, by simp [h5]⟩
  by_cases h6 : s.toList = [83, 52]
  · right; right; right; right; right; right; left; exact ⟨h6, by simp [h6]⟩
  by_cases h7 : s.toList = [83, 53]
  · right; right; right; right; right; right; right; left; exact ⟨h7, by simp [h7]⟩
  by_cases h8 : s.toList = [75, 66]
  · right; right; right; right; right; right; right; right; left; exact ⟨h8, by simp [h8]⟩
  by_cases h9 : s.toList = [71, 76]
  · right; right; right; right; right; right; right; right; right; left; exact ⟨h9, by simp [h9]⟩
  right; right; right; right; right; right; right; right; right; right; exact ⟨by simpa using h0, by simpa using h1, by simpa using h2, by simpa using h3, by simpa using h4, by simpa using h5, by simpa using h6, by simpa using h7, by simpa using h8, by simpa using h9, by simp [h0, h1, h2, h3, h4, h5, h6, h7, h8, h9]⟩
theorem schR_length (s : ByteArray) : (schR s).length ≤ 64 := by
  rcases sch_cases s with ⟨_, h⟩ | ⟨_, h⟩ | ⟨_, h⟩ | ⟨_, h⟩ | ⟨_, h⟩ | ⟨_, h⟩ | ⟨_, h⟩ | ⟨_, h⟩ | ⟨_, h⟩ | ⟨_, h⟩ | ⟨_, _, _, _, _, _, _, _, _, _, h⟩ <;> rw [h] <;> simp [upTo]
set_option maxHeartbeats 1000000 in
theorem implSch_any (s : ByteArray) (w : World) :
    Calls Try.prog 48 #[.string s] w fun e w' => (e = .returned (.tuple #[.slice none 0 0, .bool false]) ∧ schR s = [] ∧ Below w.heap.size w w') ∨ ∃ v', e = .returned (.tuple #[v', .bool true]) ∧ schR s ≠ [] ∧ w'.ownsRow w.heap.size 2 1 v' (schR s).length ((schR s).map (Value.int .i64)) ∧ Below w.heap.size w w' := by
  rcases sch_cases s with ⟨h, hR⟩ | ⟨h, hR⟩ | ⟨h, hR⟩ | ⟨h, hR⟩ | ⟨h, hR⟩ | ⟨h, hR⟩ | ⟨h, hR⟩ | ⟨h, hR⟩ | ⟨h, hR⟩ | ⟨h, hR⟩ | ⟨h0, h1, h2, h3, h4, h5, h6, h7, h8, h9, hR⟩
  · refine (implSch_Int s w h).mono ?_
    rintro e w' ⟨v', rfl, ho, hb⟩
    refine .inr ⟨v', rfl, by rw [hR]; simp [upTo], ?_, hb⟩
    rw [hR]
    exact ho
  · refine (implSch_CL s w h).mono ?_
    rintro e w' ⟨v', rfl, ho, hb⟩
    refine .inr ⟨v', rfl, by rw [hR]; simp [upTo], ?_, hb⟩
    rw [hR]
    exact ho
  · refine (implSch_K s w h).mono ?_
    rintro e w' ⟨v', rfl, ho, hb⟩
    refine .inr ⟨v', rfl, by rw [hR]; simp [upTo], ?_, hb⟩
    rw [hR]
    exact ho
  · refine (implSch_D s w h).mono ?_
    rintro e w' ⟨v', rfl, ho, hb⟩
    refine .inr ⟨v', rfl, by rw [hR]; simp [upTo], ?_, hb⟩
    rw [hR]
    exact ho
  · refine (implSch_T s w h).mono ?_
    rintro e w' ⟨v', rfl, ho, hb⟩
    refine .inr ⟨v', rfl, by rw [hR]; simp [upTo], ?_, hb⟩
    rw [hR]
    exact ho
  · refine (implSch_K4 s w h).mono ?_
    rintro e w' ⟨v', rfl, ho, hb⟩
    refine .inr ⟨v', rfl, by rw [hR]; simp [upTo], ?_, hb⟩
    rw [hR]
    exact ho
  · refine (implSch_S4 s w h).mono ?_
    rintro e w' ⟨v', rfl, ho, hb⟩
    refine .inr ⟨v', rfl, by rw [hR]; simp [upTo], ?_, hb⟩
    rw [hR]
    exact ho
  · refine (implSch_S5 s w h).mono ?_
    rintro e w' ⟨v', rfl, ho, hb⟩
    refine .inr ⟨v', rfl, by rw [hR]; simp [upTo], ?_, hb⟩
    rw [hR]
    exact ho
  · refine (implSch_KB s w h).mono ?_
    rintro e w' ⟨v', rfl, ho, hb⟩
    refine .inr ⟨v', rfl, by rw [hR]; simp [upTo], ?_, hb⟩
    rw [hR]
    exact ho
  · refine (implSch_GL s w h).mono ?_
    rintro e w' ⟨v', rfl, ho, hb⟩
    refine .inr ⟨v', rfl, by rw [hR]; simp [upTo], ?_, hb⟩
    rw [hR]
    exact ho
  · replace hR := Lib.hid hR
    go_enter Try.func48, Try.ntmps48
    go_wp2_with fail
    go_ret2
    exact .inl ⟨rfl, hR.out, by first | exact Below.refl _ _ | exact (Below.refl _ _).alloc (Nat.le_refl _) _⟩
set_option maxHeartbeats 1000000 in
theorem specSch_any (s : ByteArray) (w : World) :
    Calls Try.prog 47 #[.string s] w fun e w' => (e = .returned (.slice none 0 0) ∧ schR s = [] ∧ Below w.heap.size w w') ∨ ∃ v', e = .returned v' ∧ schR s ≠ [] ∧ w'.ownsRow w.heap.size 2 1 v' (schR s).length ((schR s).map (Value.int .i64)) ∧ Below w.heap.size w w' := by
  rcases sch_cases s with ⟨h, hR⟩ | ⟨h, hR⟩ | ⟨h, hR⟩ | ⟨h, hR⟩ | ⟨h, hR⟩ | ⟨h, hR⟩ | ⟨h, hR⟩ | ⟨h, hR⟩ | ⟨h, hR⟩ | ⟨h, hR⟩ | ⟨h0, h1, h2, h3, h4, h5, h6, h7, h8, h9, hR⟩
  · refine (specSch_Int s w h).mono ?_
    rintro e w' ⟨v', rfl, ho, hb⟩
    refine .inr ⟨v', rfl, by rw [hR]; simp [upTo], ?_, hb⟩
    rw [hR]
    exact ho
  · refine (specSch_CL s w h).mono ?_
    rintro e w' ⟨v', rfl, ho, hb⟩
    refine .inr ⟨v', rfl, by rw [hR]; simp [upTo], ?_, hb⟩
    rw [hR]
    exact ho
  · refine (specSch_K s w h).mono ?_
    rintro e w' ⟨v', rfl, ho, hb⟩
    refine .inr ⟨v', rfl, by rw [hR]; simp [upTo], ?_, hb⟩
    rw [hR]
    exact ho
  · refine (specSch_D s w h).mono ?_
    rintro e w' ⟨v', rfl, ho, hb⟩
    refine .inr ⟨v', rfl, by rw [hR]; simp [upTo], ?_, hb⟩
    rw [hR]
    exact ho
  · refine (specSch_T s w h).mono ?_
    rintro e w' ⟨v', rfl, ho, hb⟩
    refine .inr ⟨v', rfl, by rw [hR]; simp [upTo], ?_, hb⟩
    rw [hR]
    exact ho
  · refine (specSch_K4 s w h).mono ?_
    rintro e w' ⟨v', rfl, ho, hb⟩
    refine .inr ⟨v', rfl, by rw [hR]; simp [upTo], ?_, hb⟩
    rw [hR]
    exact ho
  · refine (specSch_S4 s w h).mono ?_
    rintro e w' ⟨v', rfl, ho, hb⟩
    refine .inr ⟨v', rfl, by rw [hR]; simp [upTo], ?_, hb⟩
    rw [hR]
    exact ho
  · refine (specSch_S5 s w h).mono ?_
    rintro e w' ⟨v', rfl, ho, hb⟩
    refine .inr ⟨v', rfl, by rw [hR]; simp [upTo], ?_, hb⟩
    rw [hR]
    exact ho
  · refine (specSch_KB s w h).mono ?_
    rintro e w' ⟨v', rfl, ho, hb⟩
    refine .inr ⟨v', rfl, by rw [hR]; simp [upTo], ?_, hb⟩
    rw [hR]
    exact ho
  · refine (specSch_GL s w h).mono ?_
    rintro e w' ⟨v', rfl, ho, hb⟩
    refine .inr ⟨v', rfl, by rw [hR]; simp [upTo], ?_, hb⟩
    rw [hR]
    exact ho
  · replace hR := Lib.hid hR
    go_enter Try.func47, Try.ntmps47
    go_wp2_with fail
    go_ret
    exact .inl ⟨rfl, hR.out, by first | exact Below.refl _ _ | exact (Below.refl _ _).alloc (Nat.le_refl _) _⟩
theorem implSchemesOf_any (s : ByteArray) (w : World) :
    Calls Try.prog 20 #[.string s] w fun e w' => ∃ v', e = .returned (.tuple #[v', .int .i64 (schCode s)]) ∧ w'.ownsRow w.heap.size 2 1 v' (schR s).length ((schR s).map (Value.int .i64)) ∧ Below w.heap.size w w' := by
  have hlen := schR_length s
  have hcode := Lib.hid (show schCode s = if schR s = [] then 2 else 0 from rfl)
  go_enter Try.func20, Try.ntmps20
  go_wp2_with fail
  refine (implSch_any s w).mono ?_
  rintro e w1 (⟨rfl, hR, b1⟩ | ⟨v', rfl, hR, ho, b1⟩)
  · have hc := Lib.hid (show schCode s = 2 by unfold schCode; rw [if_pos hR])
    replace hR := Lib.hid hR
    clear hlen hcode
    go_wp2_with fail
    go_ret2
    exact ⟨_, by rw [hc.out]; rfl, by rw [hR.out]; exact World.ownsRow_nil _ _ _ _, b1⟩
  · have hc := Lib.hid (show schCode s = 0 by unfold schCode; rw [if_neg hR])
    have hpos : 0 < (schR s).length := List.length_pos_iff.2 hR
    replace hR := Lib.hid hR
    clear hcode
    have hsh : ∃ a c, v' = .slice a (schR s).length c := by
      rcases ho.2 with ⟨rfl, h0⟩ | ⟨g, cap, cur, rfl, _⟩
      · omega
      · exact ⟨_, _, rfl⟩
    obtain ⟨a1, c1, rfl⟩ := hsh
    have ho := Lib.hid ho
    generalize hn : (schR s).length = n at *
    have hn := Lib.hid hn
    have hn0 : ((n : Int) == 0) = false := by rw [beq_eq_false_iff_ne]; omega
    go_wp2_with fail
    go_ret2
    exact ⟨_, by rw [hc.out]; rfl, by rw [hn.out]; exact ho.out, b1⟩
theorem specSchemesOf_any (s : ByteArray) (w : World) :
    Calls Try.prog 19 #[.string s] w fun e w' => ∃ v', e = .returned (.tuple #[v', .int .i64 (schCode s)]) ∧ w'.ownsRow w.heap.size 2 1 v' (schR s).length ((schR s).map (Value.int .i64)) ∧ Below w.heap.size w w' := by
  have hlen := schR_length s
  have hcode := Lib.hid (show schCode s = if schR s = [] then 2 else 0 from rfl)
  go_enter Try.func19, Try.ntmps19
  go_wp2_with fail
  refine (specSch_any s w).mono ?_
  rintro e w1 (⟨rfl, hR, b1⟩ | ⟨v', rfl, hR, ho, b1⟩)
  · have hc := Lib.hid (show schCode s = 2 by unfold schCode; rw [if_pos hR])
    replace hR := Lib.hid hR
    clear hlen hcode
    go_wp2_with fail
    go_ret2
    exact ⟨_, by rw [hc.out]; rfl, by rw [hR.out]; exact World.ownsRow_nil _ _ _ _, b1⟩
  · have hc := Lib.hid (show schCode s = 0 by unfold schCode; rw [if_neg hR])
    have hpos : 0 < (schR s).length := List.length_pos_iff.2 hR
    replace hR := Lib.hid hR
    clear hcode
    have hsh : ∃ a c, v' = .slice a (schR s).length c := by
      rcases ho.2 with ⟨rfl, h0⟩ | ⟨g, cap, cur, rfl, _⟩
      · omega
      · exact ⟨_, _, rfl⟩
    obtain ⟨a1, c1, rfl⟩ := hsh
    have ho := Lib.hid ho
    generalize hn : (schR s).length = n at *
    have hn := Lib.hid hn
    have hn0 : ((n : Int) == 0) = false := by rw [beq_eq_false_iff_ne]; omega
    go_wp2_with fail
    go_ret2
    exact ⟨_, by rw [hc.out]; rfl, by rw [hn.out]; exact ho.out, b1⟩
end Go.Proofs.Ytfedipeabbaccaa
