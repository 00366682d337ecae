/- What the laws draw out of a code: two formulas to be unified, the walk. -/
import Derived.Test.YtdpnkojchimmfaaQBDrawUnify

namespace Go.Proofs.Ytdpnkojchimmfaa
open Go.RowKit Go.Deep
set_option linter.unusedVariables false

set_option maxHeartbeats 8000000 in
theorem drawUnifyFormulas_any (cv : Value) (zs : List Int) (w : World) (hB : Bytes w cv zs) (hL : zs.length ≤ 4096) :
    Calls Try.prog 22 #[cv] w fun e w' => (∃ va a vb b, e = .returned (.tuple #[va, vb]) ∧ Hid (Nodes w' va a) ∧ Hid (Nodes w' vb b)) ∧ Below w.heap.size w w' := by
  have h1 := Lib.hid (l01From_any cv zs w hB hL)
  have h2 := Lib.hid (fun W hW => l02Any_any w w.heap.size cv zs 4 hB hL (by omega) (by omega) 9 (by omega) (by omega) W hW)
  have hnext := Lib.hid (fun (k : Int) (W : World) (hW : St w w.heap.size cv zs.length W) (k1 : 1 ≤ k) (k2 : k ≤ 9223372036854775807) => l01Next_any w w.heap.size cv zs k W hB hW k1 k2 hL)
  have hdraw := Lib.hid (fun (W : World) (hW : St w w.heap.size cv zs.length W) => l02Draw_any w w.heap.size cv zs 5 hB hL (by omega) (by omega) 4 4 (by omega) (by omega) (by omega) W hW)
  have hkeep := Lib.hid (show ∀ (K : Nat) (W W' : World) (v : Value) (ns : List Nd), Hid (MadeZ (w.heap.size + 1) W v ns 100) → Turned w.heap.size (w.heap.size + 1) W W' → Hid (MadeZ (w.heap.size + 1) W' v ns 100) from fun K W W' v ns h ht => h.out.turned ht (by omega))
  clear hB
  go_enter Try.func22, Try.ntmps22
  go_wp2_with fail
  refine h1.out.mono ?_
  rintro e w1 ⟨rfl, hs1⟩
  have hlt1 := hs1.lt
  have hs1 := Lib.hid hs1
  clear h1
  go_wp2_with fail
  refine (h2.out _ hs1.out).mono ?_
  rintro e w2 ⟨⟨va, a, rfl, hm⟩, hs2, t2⟩
  have hz2 := t2.out.size
  have hm2 := Lib.hid (hm.out.mono (show w.heap.size + 1 ≤ w1.heap.size by omega) (Int.le_refl _))
  have hn2 := Lib.hid (nodes_of_own hm2.out.own)
  have hal := hm2.out.le
  clear hm hs1 t2
  go_wp2_with fail
  refine (l02Is_any va a _ hn2.out).mono ?_
  rintro e w' ⟨rfl, rfl⟩
  have tail := Lib.hid (show ∀ W : World, St w w.heap.size cv zs.length W → w.heap.size + 1 ≤ W.heap.size → Calls Try.prog 39 #[.pointer (some ⟨w.heap.size, 0, none⟩), .int .i64 9, .int .i64 4, .bool true] W fun e W' => ∃ v ns, e = .returned v ∧ Hid (Nodes W' v ns) ∧ Hid (St w w.heap.size cv zs.length W') ∧ Hid (Turned w.heap.size (w.heap.size + 1) W W') from fun W hW _ => (h2.out W hW).mono fun e W' ⟨⟨v, ns, he, hmz⟩, hst, htt⟩ => ⟨v, ns, he, Lib.hid (nodes_of_own hmz.out.own), hst, htt⟩)
  cases hfa : formB a with
  | false =>
    clear hfa hal
    go_wp2_with fail
    refine (tail.out _ hs2.out (by omega)).mono ?_
    rintro e w3 ⟨vb, b, rfl, hnb, hs3, t3⟩
    have hna := Lib.hid (nodes_of_own (hkeep.out 0 _ _ _ _ hm2 t3.out).out.own)
    have hbel := Lib.hid hs3.out.bel
    go_wp2_with fail
    go_ret2
    first | exact ⟨⟨_, _, _, _, rfl, hna, hnb⟩, hbel.out⟩ | exact ⟨⟨_, _, _, rfl, hna, _, hnb⟩, hbel.out⟩
  | true =>
    have hf := Lib.hid hfa
    clear hfa
    go_wp2_with fail
    refine (hnext.out 3 _ hs2.out (by omega) (by omega)).mono ?_
    rintro e w3 ⟨⟨x, rfl, x0, x1⟩, hs3, t3⟩
    have hz3 := t3.size
    have hs3 := Lib.hid hs3
    have hm3 := hkeep.out 0 _ _ _ _ hm2 t3
    clear hs2 hm2 hn2 t3
    by_cases hx : 0 < x
    · have hn3 := Lib.hid (nodes_of_own hm3.out.own)
      have hl3 := form_len3 hf.out
      go_wp2_with fail
      refine (l02Own_any va a _ hn3.out hl3.1 (by omega)).mono ?_
      rintro e w4 ⟨vb, rfl, o4, b4⟩
      have hz4 := b4.size
      have hb4 := Lib.hid (show MadeZ (w.heap.size + 1) w4 vb a 100 from ⟨own_mono o4 (by omega), by omega⟩)
      have hm4 := Lib.hid (hm3.out.below b4)
      have hs4 := Lib.hid (hs3.out.below b4 (Nat.le_refl _))
      clear hm3 hs3 hn3 o4 b4
      go_wp2_with fail
      refine (hnext.out 3 _ hs4.out (by omega) (by omega)).mono ?_
      rintro e w5 ⟨⟨y, rfl, y0, y1⟩, hs5, t5⟩
      have hz5 := t5.size
      have hs5 := Lib.hid hs5
      have hb5 := hkeep.out 0 _ _ _ _ hb4 t5
      have hm5 := hkeep.out 0 _ _ _ _ hm4 t5
      clear hs4 hb4 hm4 t5
      obtain ⟨y, rfl⟩ := Int.eq_ofNat_of_zero_le y0
      have hfb := hf
      go_wp2_with fail
      go_loopw [6, 7] (fun v k wr => ∃ (bs : List Nd) (n : Nat), n ≤ 2 ∧ k = .int .i64 n ∧ Hid (MadeZ (w.heap.size + 1) wr v bs 100) ∧ Hid (formB bs = true) ∧ Hid (MadeZ (w.heap.size + 1) wr va a 100) ∧ Hid (St w w.heap.size cv zs.length wr) ∧ w.heap.size + 1 ≤ wr.heap.size) (fun _ k _ => (intOf k).toNat)
      case atStart => exact ⟨a, y, by omega, rfl, hb5, hfb, hm5, hs5, by omega⟩
      case round =>
        clear hb5 hm5 hs5
        obtain ⟨bs, n, hn2', rfl, hbs, hfbs, hma, hs, hzr⟩ := hrel
        have hlb := form_len3 hfbs.out
        have hnb := Lib.hid (nodes_of_own hbs.out.own)
        cases n with
        | zero =>
          go_wp2_with fail
          refine (hnext.out 2 _ hs.out (by omega) (by omega)).mono ?_
          rintro e w6 ⟨⟨z, rfl, z0, z1⟩, hs6, t6⟩
          have hz6 := t6.size
          have hs6 := Lib.hid hs6
          have hb6 := hkeep.out 0 _ _ _ _ hbs t6
          have hm6 := hkeep.out 0 _ _ _ _ hma t6
          clear hs hbs hma t6 hnb
          obtain ⟨z, rfl⟩ := Int.eq_ofNat_of_zero_le z0
          go_wp2_with fail
          go_loopw [5, 8] (fun v k wr => ∃ (al : List Nd) (n : Nat), n ≤ 1 ∧ k = .int .i64 n ∧ Hid (MadeZ (w.heap.size + 1) wr v al 100) ∧ Hid (0 < n → formB al = true) ∧ Hid (MadeZ (w.heap.size + 1) wr u6 bs 100) ∧ Hid (St w w.heap.size cv zs.length wr) ∧ w.heap.size + 1 ≤ wr.heap.size) (fun _ k _ => (intOf k).toNat)
          case atStart => exact ⟨a, z, by omega, rfl, hm6, Lib.hid fun _ => hf.out, hb6, hs6, by omega⟩
          case round =>
            clear hm6 hb6 hs6
            obtain ⟨al, n, hn1, rfl, has, hfas, hbs, hs, hzr⟩ := hrel
            obtain ⟨a9, c9, hv9⟩ := (nodes_of_own has.out.own).shape
            subst hv9
            cases n with
            | zero =>
              by_cases h40 : 40 < al.length
              · have h40i : (40 : Int) < (al.length : Int) := by omega
                clear h40
                generalize hla : al.length = la at *
                replace hla := Lib.hid hla
                go_wp2_with fail
                refine (tail.out _ hs.out hzr).mono ?_
                rintro e w7 ⟨vb, b, rfl, hnb, hs7, t7⟩
                have hna := Lib.hid (nodes_of_own (hkeep.out 0 _ _ _ _ has t7.out).out.own)
                have hbel := Lib.hid hs7.out.bel
                go_wp2_with fail
                go_ret2
                first | exact ⟨⟨_, _, _, _, rfl, hna, hnb⟩, hbel.out⟩ | exact ⟨⟨_, _, _, rfl, hna, _, hnb⟩, hbel.out⟩
              · have h40i : ¬ ((40 : Int) < (al.length : Int)) := by omega
                have hna := Lib.hid (nodes_of_own has.out.own)
                have hnb := Lib.hid (nodes_of_own hbs.out.own)
                have hbel := Lib.hid hs.out.bel
                clear h40
                generalize hla : al.length = la at *
                replace hla := Lib.hid hla
                go_wp2_with fail
                go_ret2
                first | exact ⟨⟨_, _, _, _, rfl, hna, hnb⟩, hbel.out⟩ | exact ⟨⟨_, _, _, rfl, hna, _, hnb⟩, hbel.out⟩
            | succ n =>
              have hfa1 := Lib.hid (hfas.out (by omega))
              have hla := form_len3 hfa1.out
              have hk0 : ¬ (((n + 1 : Nat) : Int) ≤ 0) := by omega
              go_wp2_with fail
              refine (hnext.out (al.length : Int) _ hs.out (by omega) (by omega)).mono ?_
              rintro e w7 ⟨⟨i, rfl, i0, i1⟩, hs7, t7⟩
              have hz7 := t7.size
              have hs7 := Lib.hid hs7
              have ha7 := hkeep.out 0 _ _ _ _ has t7
              have hb7 := hkeep.out 0 _ _ _ _ hbs t7
              obtain ⟨i, rfl⟩ := Int.eq_ofNat_of_zero_le i0
              clear hs has hbs t7
              go_wp2_with fail
              refine (hdraw.out _ hs7.out).mono ?_
              rintro e w8 ⟨⟨v8, d, rfl, hd⟩, hs8, t8⟩
              have hz8 := t8.out.size
              have ha8 := hkeep.out 0 _ _ _ _ ha7 t8.out
              have hb8 := hkeep.out 0 _ _ _ _ hb7 t8.out
              have hdl := hd.out.le
              have hdp := hd.out.pos
              have hdn := Lib.hid (nodes_of_own hd.out.own)
              clear hs7 ha7 hb7 t8 hd
              go_wp2_with fail
              refine (l03Put_any _ al i _ d _ (nodes_of_own ha8.out.own) hfa1.out (by omega) hdn.out hdp (by omega)).mono ?_
              rintro e w9 ⟨v9, rfl, o9, b9⟩
              have hz9 := b9.size
              have hpl := (put_length hfa1.out (show i < al.length by omega) d).1
              have ha9 := Lib.hid (show MadeZ (w.heap.size + 1) w9 v9 (putL al i d) 100 from ⟨own_mono o9 (by omega), by omega⟩)
              have hb9 := Lib.hid (hb8.out.below b9)
              have hs9 := Lib.hid (hs8.out.below b9 (Nat.le_refl _))
              clear o9 b9 ha8 hb8 hs8 hdn hpl
              go_wp2_with fail
              go_roundw
              case rel => exact ⟨_, n, by omega, by go_num, ha9, Lib.hid fun h => by omega, hb9, hs9, by omega⟩
              case measure => simp [intOf] <;> omega
        | succ n =>
          obtain ⟨a9, c9, hv9⟩ := hnb.out.shape
          subst hv9
          have hk0 : ¬ (((n + 1 : Nat) : Int) ≤ 0) := by omega
          go_wp2_with fail
          refine (hnext.out (bs.length : Int) _ hs.out (by omega) (by omega)).mono ?_
          rintro e w7 ⟨⟨i, rfl, i0, i1⟩, hs7, t7⟩
          have hz7 := t7.size
          have hs7 := Lib.hid hs7
          have ha7 := hkeep.out 0 _ _ _ _ hma t7
          have hb7 := hkeep.out 0 _ _ _ _ hbs t7
          obtain ⟨i, rfl⟩ := Int.eq_ofNat_of_zero_le i0
          clear hs hma hbs t7 hnb
          go_wp2_with fail
          refine (hnext.out 5 _ hs7.out (by omega) (by omega)).mono ?_
          rintro e w8 ⟨⟨z, rfl, z0, z1⟩, hs8, t8⟩
          have hz8 := t8.size
          have hs8 := Lib.hid hs8
          have ha8 := hkeep.out 0 _ _ _ _ ha7 t8
          have hb8 := hkeep.out 0 _ _ _ _ hb7 t8
          clear hs7 ha7 hb7 t8
          go_wp2_with fail
          refine (l02VarG_any _ _).mono ?_
          rintro e w9 ⟨v9, rfl, o9, b9⟩
          have hz9 := b9.size
          have hb9 := Lib.hid (hb8.out.below b9)
          have ha9 := Lib.hid (ha8.out.below b9)
          have hs9 := Lib.hid (hs8.out.below b9 (Nat.le_refl _))
          have hdn := Lib.hid (nodes_of_own (ns := [((0 : Int), z)]) o9)
          clear o9 b9 ha8 hb8 hs8
          go_wp2_with fail
          refine (l03Put_any _ bs i _ [((0 : Int), z)] _ (nodes_of_own hb9.out.own) hfbs.out (by omega) hdn.out (by simp) (by simp)).mono ?_
          rintro e w10 ⟨v10, rfl, o10, b10⟩
          have hz10 := b10.size
          have hpl := (put_length hfbs.out (show i < bs.length by omega) [((0 : Int), z)]).1
          rw [List.length_singleton] at hpl
          have hf10 := Lib.hid (put_form hfbs.out (var_form z0 (by omega)) (show i < bs.length by omega) (by omega))
          have hb10 := Lib.hid (show MadeZ (w.heap.size + 1) w10 v10 (putL bs i [((0 : Int), z)]) 100 from ⟨own_mono o10 (by omega), by omega⟩)
          have ha10 := Lib.hid (ha9.out.below b10)
          have hs10 := Lib.hid (hs9.out.below b10 (Nat.le_refl _))
          clear o10 b10 ha9 hb9 hs9 hdn hpl
          go_wp2_with fail
          go_roundw
          case rel => exact ⟨_, n, by omega, by go_num, hb10, hf10, ha10, hs10, by omega⟩
          case measure => simp [intOf] <;> omega
    · have hn3 := hm3
      go_wp2_with fail
      refine (tail.out _ hs3.out (by omega)).mono ?_
      rintro e w4 ⟨vb, b, rfl, hnb, hs4, t4⟩
      have hna := Lib.hid (nodes_of_own (hkeep.out 0 _ _ _ _ hm3 t4.out).out.own)
      have hbel := Lib.hid hs4.out.bel
      go_wp2_with fail
      go_ret2
      first | exact ⟨⟨_, _, _, _, rfl, hna, hnb⟩, hbel.out⟩ | exact ⟨⟨_, _, _, rfl, hna, _, hnb⟩, hbel.out⟩
end Go.Proofs.Ytdpnkojchimmfaa
