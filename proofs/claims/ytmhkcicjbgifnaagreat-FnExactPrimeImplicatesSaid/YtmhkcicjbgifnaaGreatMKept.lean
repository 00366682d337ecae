/- The terms that are kept: a map from keys to slices of one's own; impl.primes$1. -/
import Derived.Test.YtmhkcicjbgifnaaGreatMTermM
import Derived.Test.YtmhkcicjbgifnaaGreatMPendI
import Derived.Test.YtmhkcicjbgifnaaGreatMKeyFnsM
import Derived.Deep.RegionWith

namespace Go.Proofs.YtmhkcicjbgifnaaGreat
open Go.RowKit Go.Deep
set_option linter.unusedVariables false
set_option linter.unusedSimpArgs false

theorem cell_ne_map {w : World} {p : Addr} {v : Value} {P : Program} {k : TypeId} {b m : Nat} {f : Int → Option Value} (h : w.cell? p = some v) (hm : MapV P k w b m f) : p.block ≠ b := by
  intro e
  obtain ⟨D, ⟨es, clock, hb, _⟩, _⟩ := hm
  subst e
  simp [World.cell?, hb] at h
theorem cell_mapped {w w' : World} {p : Addr} {v : Value} {P : Program} {k : TypeId} {b m : Nat} {f : Int → Option Value} (h : w.cell? p = some v) (hm : MapV P k w b m f) (hg : w.grownBy w' (some b)) : w'.cell? p = some v :=
  (hg.cell_far p (World.block_lt_of_cell? w p h) (fun e => cell_ne_map h hm (by injection e))).trans h
theorem MapV.update_run {P : Program} {k e t : TypeId} {w : World} {b n : Nat} {f : Int → Option Value} (h : MapV P k w b n f) (hk : P.underlying k = some (.int .i64)) (ht : P.underlying t = some (.map k e)) (hn : n < maxLen) (y : Int) (val : Value) (hw : (Lit.int .i64 y).wf = true) :
    ∃ w', (Instr.mapUpdate t (.map (some b)) (.int .i64 y) val).run P w = .ok () w' ∧ MapV P k w' b (n + 1) (setF f y val) ∧ w.grownBy w' (some b) := by
  obtain ⟨D, hD, hr⟩ := h
  obtain ⟨w', h1, h2, h3⟩ := hD.update (Maps.int_keyed hk) ht hn (Maps.keyOf_int_mk hk hw) (val := val) (d := .held val) (ps := []) rfl
  exact ⟨w', h1, ⟨_, h2, hr.put hD.isMap y val⟩, h3⟩
theorem MapV.look_run {P : Program} {k e t : TypeId} {w : World} {b n : Nat} {f : Int → Option Value} (h : MapV P k w b n f) (hk : P.underlying k = some (.int .i64)) (ht : P.underlying t = some (.map k e)) {z : Value} (hz : (zeroValue e).run P w = .ok z w) (y : Int) (hw : (Lit.int .i64 y).wf = true) :
    (Instr.lookup t (.map (some b)) (.int .i64 y) true).run P w = .ok (.tuple #[(f y).getD z, .bool (f y).isSome]) w := by
  obtain ⟨D, hD, hr⟩ := h
  obtain ⟨v, ps, hrun, hv⟩ := hD.look_ok (Maps.int_keyed hk) ht hz (zd := .held z) (zp := []) rfl (Maps.keyOf_int_mk hk hw)
  have hv2 : v = (f y).getD z := by
    have h1 : (DataW.held v : DataW Value) = D.atKey (.int .i64 y) (.held z) := by
      unfold heldElem at hv
      have := Option.some.inj hv
      exact congrArg Prod.fst this
    rw [(hr y).1] at h1
    cases hf : f y with
    | none => rw [hf] at h1; injection h1
    | some u => rw [hf] at h1; injection h1
  subst hv2
  rw [(hr y).2] at hrun
  exact hrun
/-- A value that is a row of its own and reads as T. -/
def RowOf (K : Nat) (w : World) (v : Value) (T : List Int) : Prop := w.ownsRow K 2 1 v T.length (T.map (Value.int .i64))
structure KeptF (K : Nat) (p : Nat → Bool) (f : Int → Option Value) (w : World) : Prop where
  sound : ∀ x v, f x = some v → ∃ T : List Int, clauseB T = true ∧ impB p T = true ∧ x = ((orBits T : Nat) : Int) ∧ RowOf K w v T
  apart : ∀ x y v u, x ≠ y → f x = some v → f y = some u → ∀ k, v.ownBlock = some k → u.ownBlock ≠ some k
theorem KeptF.below {K : Nat} {p : Nat → Bool} {f : Int → Option Value} {w w' : World} (h : KeptF K p f w) (hb : Below w.heap.size w w') : KeptF K p f w' :=
  ⟨fun x v hx => by obtain ⟨T, h1, h2, h3, h4⟩ := h.sound x v hx; exact ⟨T, h1, h2, h3, own_below h4 hb (Nat.le_refl _)⟩, h.apart⟩
theorem KeptF.mapped {K : Nat} {p : Nat → Bool} {f : Int → Option Value} {w w' : World} {P : Program} {k : TypeId} {b m : Nat} {g : Int → Option Value} (h : KeptF K p f w) (hm : MapV P k w b m g) (hg : w.grownBy w' (some b)) : KeptF K p f w' :=
  ⟨fun x v hx => by obtain ⟨T, h1, h2, h3, h4⟩ := h.sound x v hx; exact ⟨T, h1, h2, h3, row_mapped h4 hm hg⟩, h.apart⟩
theorem KeptF.nil (K : Nat) (p : Nat → Bool) (w : World) : KeptF K p (fun _ => none) w where
  sound := fun x v hx => absurd hx (by simp)
  apart := fun x y v u _ hx => absurd hx (by simp)
theorem KeptF.set {K : Nat} {p : Nat → Bool} {f : Int → Option Value} {w w' : World} {v : Value} {T : List Int} (h : KeptF K p f w) (hb : Below w.heap.size w w') (hk : K ≤ w.heap.size) (hT : clauseB T = true) (hi : impB p T = true) (hv : RowOf w.heap.size w' v T) :
    KeptF K p (setF f ((orBits T : Nat) : Int) v) w' := by
  have h' := h.below hb
  have hnew : ∀ k, v.ownBlock = some k → w.heap.size ≤ k := fun k hk => (hv.lt k hk).1
  have hold : ∀ x u, f x = some u → ∀ k, u.ownBlock = some k → k < w.heap.size := fun x u hx k hk => by
    obtain ⟨T, _, _, _, h4⟩ := h.sound x u hx
    exact (h4.lt k hk).2
  refine ⟨fun x u hx => ?_, fun x y u1 u2 hxy hx hy k hk1 hk2 => ?_⟩
  · unfold setF at hx
    split at hx
    · rename_i e
      obtain rfl := Option.some.inj hx
      exact ⟨T, hT, hi, e, own_mono hv hk⟩
    · exact h'.sound x u hx
  · unfold setF at hx hy
    split at hx
    · rename_i e
      obtain rfl := Option.some.inj hx
      rw [if_neg (fun e2 => hxy (e.trans e2.symm))] at hy
      have := hold y u2 hy k hk2
      have := hnew k hk1
      omega
    · split at hy
      · obtain rfl := Option.some.inj hy
        have := hold x u1 hx k hk1
        have := hnew k hk2
        omega
      · exact h.apart x y u1 u2 hxy hx hy k hk1 hk2
/-- What the recursion works on: the rows of the models in a box, the map in a box. -/
structure KeptSt (K : Nat) (p : Nat → Bool) (mb kb b n : Nat) (f : Int → Option Value) (w : World) : Prop where
  mc : w.cell? ⟨mb, 0, none⟩ = some (.int .u64 (rowsOf p 64 : Nat))
  kc : w.cell? ⟨kb, 0, none⟩ = some (.map (some b))
  map : MapV Tryz.prog 2 w b n f
  kept : KeptF K p f w
  ks : K ≤ w.heap.size
theorem KeptSt.below {K : Nat} {p : Nat → Bool} {mb kb b n : Nat} {f : Int → Option Value} {w w' : World} (h : KeptSt K p mb kb b n f w) (hb : Below w.heap.size w w') : KeptSt K p mb kb b n f w' :=
  ⟨keep_cell hb h.mc, keep_cell hb h.kc, h.map.below hb, h.kept.below hb, Nat.le_trans h.ks hb.size⟩
theorem grown_trans {a c d : World} {row : Option Nat} (h : a.grownBy c row) (k : c.grownBy d row) : a.grownBy d row := ⟨k.os.trans h.os, k.tape.trans h.tape, k.output.trans h.output, Nat.le_trans h.size k.size, fun i hi hn => (k.block i (Nat.lt_of_lt_of_le hi h.size) hn).trans (h.block i hi hn)⟩
theorem grown_of_below {a c : World} {row : Option Nat} (h : Below a.heap.size a c) : a.grownBy c row := ⟨h.os, h.tape, h.output, h.size, fun i hi _ => h.block i hi⟩
/-- Which keys are there. -/
def domB (f f' : Int → Option Value) (q : List Int → Prop) : Prop := ∀ T, clauseB T = true → (f' ((orBits T : Nat) : Int) ≠ none ↔ f ((orBits T : Nat) : Int) ≠ none ∨ q T)
theorem KeptSt.put {K : Nat} {p : Nat → Bool} {mb kb b n : Nat} {f : Int → Option Value} {w w3 w5 : World} {v : Value} {T : List Int} (h : KeptSt K p mb kb b n f w) (hb : Below w.heap.size w w3) (hT : clauseB T = true) (hi : impB p T = true) (hv : RowOf w.heap.size w3 v T)
    (hm : MapV Tryz.prog 2 w5 b (n + 1) (setF f ((orBits T : Nat) : Int) v)) (hg : w3.grownBy w5 (some b)) : KeptSt K p mb kb b (n + 1) (setF f ((orBits T : Nat) : Int) v) w5 ∧ w.grownBy w5 (some b) ∧ domB f (setF f ((orBits T : Nat) : Int) v) fun S => S = T := by
  have h3 := h.below hb
  refine ⟨⟨cell_mapped h3.mc h3.map hg, cell_mapped h3.kc h3.map hg, hm, (h.kept.set hb h.ks hT hi hv).mapped h3.map hg, Nat.le_trans h3.ks hg.size⟩, grown_trans (grown_of_below hb) hg, fun S hS => ?_⟩
  unfold setF
  by_cases e : S = T
  · subst e
    simp
  · rw [if_neg (fun e2 => e (key_inj hS hT (by omega)))]
    exact ⟨.inl, fun h => h.elim id fun h => absurd h e⟩
set_option maxHeartbeats 4000000 in
set_option maxRecDepth 100000 in
theorem primes1_any (K : Nat) (p : Nat → Bool) (mb kb b n : Nat) (f : Int → Option Value) (v : Value) (T : List Int) (w : World) (h : KeptSt K p mb kb b n f w) (hv : Ints w v T) (hT : clauseB T = true) (hn : n < 1000000) :
    Calls Tryz.prog 42 #[v, .pointer (some ⟨mb, 0, none⟩), .pointer (some ⟨kb, 0, none⟩)] w fun e w' => (∃ u, e = .returned u) ∧ ∃ f', KeptSt K p mb kb b (n + 1) f' w' ∧ w.grownBy w' (some b) ∧ domB f f' fun S => S = T ∧ impB p T = true := by
  have hin : ∀ x ∈ T, 0 ≤ x ∧ x ≤ 11 := fun x hx => clause_in hT hx
  have hlen := clause_len hT
  have hrows := Lib.hid (fun W (hW : Below w.heap.size w W) => termRows_any v T W (hv.below hW (Nat.le_refl _)) hin)
  have hkey := Lib.hid (fun W (hW : Below w.heap.size w W) => clauseKey_any v T W (hv.below hW (Nat.le_refl _)) hin)
  have hclone := Lib.hid (fun W (hW : Below w.heap.size w W) => show Calls Tryz.prog 44 #[v] W fun e w' => ∃ v', e = .returned v' ∧ RowOf w.heap.size w' v' T ∧ Below w.heap.size w w' from (cloneZ_any v T W (hv.below hW (Nat.le_refl _)) (by omega)).mono (by
    rintro e w' ⟨v', rfl, ho, hb⟩
    exact ⟨v', rfl, own_mono ho hW.size, keep_step hb hW⟩))
  have hmc := h.mc
  have hkc := h.kc
  have hsz := Lib.hid hT
  have handn := Lib.hid (show bits BinOp.andNot IntKind.u64 ((rowsOf (termB T) 64 : Nat) : Int) ((rowsOf p 64 : Nat) : Int) = ((rowsOf (fun r => termB T r && !p r) 64 : Nat) : Int) from andNot_rows _ _)
  have himp := Lib.hid (imp_rows p T)
  have hwf := key_wf hT
  have hst := Lib.hid h
  have hn2 : n < maxLen := by unfold maxLen; omega
  obtain ⟨a, c, rfl⟩ := hv.shape
  generalize ((rowsOf (termB T) 64 : Nat) : Int) = X at *
  generalize ((rowsOf p 64 : Nat) : Int) = Y at *
  generalize ((rowsOf (fun r => termB T r && !p r) 64 : Nat) : Int) = Z at *
  generalize hkk : ((orBits T : Nat) : Int) = key at *
  have hkk := Lib.hid hkk
  generalize htl : T.length = tl at *
  have htl := Lib.hid htl
  clear hin
  cases hd : impB p T
  · have himp := himp.out
    rw [hd] at himp
    go_enter Tryz.func42, Tryz.ntmps42
    go_wp2_with fail
    go_quiet ((go_at_call 43; exact quiet_eq (hrows.out _ (by first | exact Below.refl _ _ | exact below_drewN' _ _))))
    rw [handn.out, himp]
    go_wp2_with fail
    refine bodyPost_end (results_none rfl _ _ _) rfl ?_
    refine ⟨⟨_, rfl⟩, f, ?_, ?_, ?_⟩
    · have h1 := hst.out.below (below_drewN (Below.refl _ _) nq)
      exact ⟨h1.mc, h1.kc, h1.map.mono (Nat.le_succ n), h1.kept, h1.ks⟩
    · exact grown_of_below (below_drewN (Below.refl _ _) nq)
    · exact fun S hS => ⟨.inl, fun h => h.elim id fun h => absurd h.2 (by simp)⟩
  · have himp := himp.out
    rw [hd] at himp
    go_enter Tryz.func42, Tryz.ntmps42
    go_wp2_with fail
    go_quiet ((go_at_call 43; exact quiet_eq (hrows.out _ (by first | exact Below.refl _ _ | exact below_drewN' _ _))))
    rw [handn.out, himp]
    go_wp2_with fail
    have hst2 := Lib.hid (hst.out.below (below_drewN (Below.refl _ _) nq))
    have hbA := Lib.hid (below_drewN (Below.refl w.heap.size w) nq)
    generalize w.drewN nq = A at *
    have hkcA := hst2.out.kc
    have hkey2 := Lib.hid (fun W (hW : Below A.heap.size A W) => hkey.out W (keep_step hW hbA.out))
    have hclone2 := Lib.hid (fun W (hW : Below A.heap.size A W) => show Calls Tryz.prog 44 #[.slice a tl c] W fun e w' => ∃ v', e = .returned v' ∧ RowOf A.heap.size w' v' T ∧ Below A.heap.size A w' from (cloneZ_any (.slice a tl c) T W (hv.below (keep_step hW hbA.out) (Nat.le_refl _)) (by rw [htl.out]; omega)).mono (by
      rintro e w' ⟨v', rfl, ho, hb⟩
      exact ⟨v', rfl, own_mono ho hW.size, keep_step hb hW⟩))
    clear hst hrows hkey hclone h hmc hkc hv
    go_region_with (first | (go_at_call 45; refine (hkey2.out _ (by first | exact Below.refl _ _ | exact Below.drew (Below.refl _ _) | exact below_drewN' _ _)).mono ?_; rintro e w' ⟨rfl, rfl⟩) | (go_at_call 44; refine (hclone2.out _ (by first | exact Below.refl _ _ | exact Below.drew (Below.refl _ _) | exact below_drewN' _ _)).mono ?_; rintro e w3 ⟨v3, rfl, ho3, b3⟩; have hkc3 := keep_cell b3 hkcA; obtain ⟨w5, hrun5, hm5, hg5⟩ := (hst2.out.below b3).map.update_run (t := 61) (e := 48) Tryz.underlying2 Tryz.underlying61 hn2 key v3 hwf))
    all_goals
      refine bodyPost_end (results_none rfl _ _ _) rfl ?_
      obtain ⟨k1, k2, k3⟩ := hst2.out.put b3 hT hd ho3 (by rw [hkk.out]; exact hm5) hg5
      exact ⟨⟨_, rfl⟩, _, k1, grown_trans (grown_of_below hbA.out) k2, fun S hS => by rw [k3 S hS]; simp⟩
end Go.Proofs.YtmhkcicjbgifnaaGreat
