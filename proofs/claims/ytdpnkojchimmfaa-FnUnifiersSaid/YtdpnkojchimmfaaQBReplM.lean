/- Walks of IsPlain and DepthsOf, of the program and of the reference. -/
import Derived.Test.YtdpnkojchimmfaaQBParts
import Derived.Test.YtdpnkojchimmfaaQBConcatM
import Derived.Test.YtdpnkojchimmfaaQBSubstTwo

namespace Go.Proofs.Ytdpnkojchimmfaa
open Go.RowKit

def modalB (k : Int) : Bool := decide (k = 5 ∨ k = 6)
def plainB (ns : List Nd) : Bool := ns.all fun n => !modalB n.1
def formCode (ns : List Nd) : Int := if formB ns then 0 else 1

theorem modal_cases (k : Int) : k = 5 ∨ k = 6 ∨ (k < 5 ∨ 6 < k) := by omega
theorem modal_yes {k : Int} (h : k = 5 ∨ k = 6) : modalB k = true := by simp [modalB, h]
theorem modal_no {k : Int} (h : k < 5 ∨ 6 < k) : modalB k = false := by simp [modalB]; omega




def isPlainR (ns : List Nd) : Bool := if formB ns then plainB ns else false



/-! Height and modal depth. -/
def depthH : Tr → Int
  | .nil => 0
  | .node _ _ n l r => if ar n.1 = 0 then 0 else if ar n.1 = 1 then depthH l + 1 else max (depthH l) (depthH r) + 1
def depthM : Tr → Int
  | .nil => 0
  | .node _ _ n l r => if ar n.1 = 0 then 0 else if ar n.1 = 1 then depthM l + 1 else max (depthM l) (depthM r)

theorem depth_bounds (t : Tr) : 0 ≤ depthH t ∧ depthH t ≤ (flat t).length ∧ 0 ≤ depthM t ∧ depthM t ≤ (flat t).length := by
  induction t with
  | nil => simp [depthH, depthM, flat]
  | node _ _ n l r ihl ihr =>
    simp only [depthH, depthM, flat, List.length_cons, List.length_append]
    split
    · omega
    · split <;> omega
end Go.Proofs.Ytdpnkojchimmfaa

/- Walks of PrefixFormula and JoinFormulas, of the program and of the reference. -/
namespace Go.Proofs.Ytdpnkojchimmfaa
open Go.RowKit

theorem lit_nodes (w : World) (k : Int) (t : TypeId) : Nodes (w.alloc (.cells #[.int .i64 k, .int .i64 0] t)) (.slice (some ⟨w.heap.size, 0, none⟩) 1 1) [(k, 0)] :=
  nodes_of_own (e := t) (World.ownsRow_lit (e := t) (base := w.heap.size) (size := 2) w #[.int .i64 k, .int .i64 0] 1 (Nat.le_refl _) (by simp [maxLen]) rfl)

theorem slices_three (w : World) (a a' a'' : Option Addr) (n n' n'' c c' c'' : Nat) (ns ns' ns'' : List Nd) (t : TypeId) : Slices (w.alloc (.cells #[.slice a n c, .slice a' n' c', .slice a'' n'' c''] t)) (.slice (some ⟨w.heap.size, 0, none⟩) 3 3) [((a, n, c), ns), ((a', n', c'), ns'), ((a'', n'', c''), ns'')] := by
  refine ⟨rfl, by show 3 ≤ maxLen; unfold maxLen; omega, _, 3, w.heap.size, 0, rfl, by show 3 ≤ 3; omega, fun _ => rfl, fun i u hu => ?_⟩
  rw [World.cell?_alloc_at _ _ _ _ rfl]
  match i, hu with
  | 0, hu => simpa [slV] using hu
  | 1, hu => simpa [slV] using hu
  | 2, hu => simpa [slV] using hu
  | i + 3, hu => simp at hu

theorem size_alloc1 (w : World) (o : Obj) : (w.alloc o).heap.size = w.heap.size + 1 := by simp


theorem limited_ok (a : Option Addr) (n c : Nat) (w : World) (hn : n ≤ 40) :
    Calls Try.prog 43 #[.slice a n c] w fun e w' => e = .returned (.tuple #[.slice a n c, .int .i64 0]) ∧ w = w' := by
  go_enter Try.func43, Try.ntmps43
  go_wp2_with fail
  go_ret2
  exact ⟨rfl, rfl⟩
theorem limited_no (a : Option Addr) (n c : Nat) (w : World) (hn : 40 < n) (hm : n ≤ 1000) :
    Calls Try.prog 43 #[.slice a n c] w fun e w' => e = .returned (.tuple #[.slice none 0 0, .int .i64 3]) ∧ w = w' := by
  go_enter Try.func43, Try.ntmps43
  go_wp2_with fail
  go_ret2
  exact ⟨rfl, rfl⟩
theorem l02Made_ok (a : Option Addr) (n c : Nat) (w : World) (hn : n ≤ 40) :
    Calls Try.prog 46 #[.slice a n c] w fun e w' => e = .returned (.tuple #[.slice a n c, .int .i64 0]) ∧ w = w' := by
  go_enter Try.func46, Try.ntmps46
  go_wp2_with fail
  go_ret2
  exact ⟨rfl, rfl⟩
theorem l02Made_no (a : Option Addr) (n c : Nat) (w : World) (hn : 40 < n) (hm : n ≤ 1000) :
    Calls Try.prog 46 #[.slice a n c] w fun e w' => e = .returned (.tuple #[.slice none 0 0, .int .i64 3]) ∧ w = w' := by
  go_enter Try.func46, Try.ntmps46
  go_wp2_with fail
  go_ret2
  exact ⟨rfl, rfl⟩

def prefCode (k : Int) (ns : List Nd) : Int := if formB ns then (if ar k = 1 then (if ns.length + 1 ≤ 40 then 0 else 3) else 2) else 1
def prefR (k : Int) (ns : List Nd) : List Nd := if prefCode k ns = 0 then (k, 0) :: ns else []
theorem pref_cases (k : Int) (ns : List Nd) : (formB ns = false ∧ prefCode k ns = 1 ∧ prefR k ns = []) ∨ (formB ns = true ∧ ¬ ar k = 1 ∧ prefCode k ns = 2 ∧ prefR k ns = []) ∨
    (formB ns = true ∧ ar k = 1 ∧ 40 < ns.length + 1 ∧ prefCode k ns = 3 ∧ prefR k ns = []) ∨ (formB ns = true ∧ ar k = 1 ∧ ns.length + 1 ≤ 40 ∧ prefCode k ns = 0 ∧ prefR k ns = (k, 0) :: ns) := by
  unfold prefR prefCode
  cases formB ns <;> by_cases h1 : ar k = 1 <;> by_cases h2 : ns.length + 1 ≤ 40 <;> simp [h1, h2] <;> omega
theorem prefR_length (k : Int) (ns : List Nd) : (prefR k ns).length ≤ 64 := by
  rcases pref_cases k ns with h | h | h | h
  · rw [h.2.2]; simp
  · rw [h.2.2.2]; simp
  · rw [h.2.2.2.2]; simp
  · rw [h.2.2.2.2, List.length_cons]; omega
theorem form_len2 {ns : List Nd} (h : formB ns = true) : 0 < ns.length ∧ ns.length ≤ 40 := by
  simp only [formB, Bool.and_eq_true, decide_eq_true_eq] at h; omega
theorem ar_one_iff (k : Int) : ar k = 1 ↔ (k = 5 ∨ k = 6) := by
  constructor
  · intro h; rcases ar_cases k with rfl | rfl | rfl | rfl | rfl | h' <;> first | (simp [ar] at h; done) | omega | (rw [ar_none h'] at h; cases h)
  · exact fun h => ar_one h


end Go.Proofs.Ytdpnkojchimmfaa

/- Walks of ReplaceVariable, of the program. -/
namespace Go.Proofs.Ytdpnkojchimmfaa
open Go.RowKit

theorem form_len3 {ns : List Nd} (h : formB ns = true) : 0 < ns.length ∧ ns.length ≤ 40 := by simp only [formB, Bool.and_eq_true, decide_eq_true_eq] at h; omega
theorem form_all3 {ns : List Nd} (h : formB ns = true) : ns.all nodeB = true := by
  simp only [formB, Bool.and_eq_true] at h
  exact h.1.2

def replL (ns : List Nd) (u : Int) (bs : List Nd) : List Nd := subL ((selfL 6).set u.toNat bs) ns
def replCode (ns : List Nd) (u : Int) (bs : List Nd) : Int := if (formB ns && formB bs) then (if inR u 0 5 then (if (replL ns u bs).length ≤ 40 then 0 else 3) else 2) else 1
def replR (ns : List Nd) (u : Int) (bs : List Nd) : List Nd := if replCode ns u bs = 0 then replL ns u bs else []
theorem repl_cases (ns : List Nd) (u : Int) (bs : List Nd) : ((formB ns && formB bs) = false ∧ replCode ns u bs = 1 ∧ replR ns u bs = []) ∨ ((formB ns && formB bs) = true ∧ inR u 0 5 = false ∧ replCode ns u bs = 2 ∧ replR ns u bs = []) ∨
    ((formB ns && formB bs) = true ∧ inR u 0 5 = true ∧ 40 < (replL ns u bs).length ∧ replCode ns u bs = 3 ∧ replR ns u bs = []) ∨ ((formB ns && formB bs) = true ∧ inR u 0 5 = true ∧ (replL ns u bs).length ≤ 40 ∧ replCode ns u bs = 0 ∧ replR ns u bs = replL ns u bs) := by
  unfold replR replCode
  cases (formB ns && formB bs) <;> cases inR u 0 5 <;> by_cases h2 : (replL ns u bs).length ≤ 40 <;> simp [h2] <;> omega
theorem replR_length (ns : List Nd) (u : Int) (bs : List Nd) : (replR ns u bs).length ≤ 64 := by
  rcases repl_cases ns u bs with ⟨_, _, h⟩ | ⟨_, _, _, h⟩ | ⟨_, _, _, _, h⟩ | ⟨_, _, h1, _, h⟩ <;> rw [h] <;> first | (simp; done) | omega

theorem self_len : (selfL 6).length = 6 := by simp [selfL]
theorem repl_images {u : Nat} {bs : List Nd} (h0 : 0 < bs.length) (h1 : bs.length ≤ 40) : ((selfL 6).set u bs).length = 6 ∧ ∀ I ∈ (selfL 6).set u bs, 0 < I.length ∧ I.length ≤ 1000 := by
  refine ⟨by rw [List.length_set, self_len], fun I hI => ?_⟩
  rcases List.mem_or_eq_of_mem_set hI with hI | rfl
  · obtain ⟨i, _, rfl⟩ := List.mem_map.1 hI
    simp
  · omega

theorem limited_big (a : Option Addr) (n c : Nat) (w : World) (hn : 40 < n) (hm : n ≤ 100000) :
    Calls Try.prog 43 #[.slice a n c] w fun e w' => e = .returned (.tuple #[.slice none 0 0, .int .i64 3]) ∧ w = w' := by
  go_enter Try.func43, Try.ntmps43
  go_wp2_with fail
  go_ret2
  exact ⟨rfl, rfl⟩
theorem l02Made_big (a : Option Addr) (n c : Nat) (w : World) (hn : 40 < n) (hm : n ≤ 100000) :
    Calls Try.prog 46 #[.slice a n c] w fun e w' => e = .returned (.tuple #[.slice none 0 0, .int .i64 3]) ∧ w = w' := by
  go_enter Try.func46, Try.ntmps46
  go_wp2_with fail
  go_ret2
  exact ⟨rfl, rfl⟩

theorem withImages_any (a : Option Addr) (n c : Nat) (w : World) :
    Calls Try.prog 70 #[.slice a n c] w fun e w' => e = .returned (.func (Fn.func 89) #[] #[.pointer (some ⟨w.heap.size, 0, none⟩)]) ∧ w'.cell? ⟨w.heap.size, 0, none⟩ = some (.slice a n c) ∧ Below w.heap.size w w' := by
  have hx : (w.alloc (.cells #[.slice a n c] 24)).cell? ⟨w.heap.size, 0, none⟩ = some (.slice a n c) := by rw [World.cell?_alloc_at _ _ _ _ rfl]; rfl
  have hxh := Lib.hid hx
  clear hx
  go_enter Try.func70, Try.ntmps70
  go_wp2_with fail
  go_ret
  exact ⟨rfl, hxh.out, (Below.refl _ _).alloc (Nat.le_refl _) _⟩

set_option maxHeartbeats 1000000 in
theorem substitute_any (v vi : Value) (ns : List Nd) (Is : List (List Nd)) (w : World) (h : Nodes w v ns) (hn : ns.length ≤ 40) (hp : 0 < ns.length) (hg : ns.all nodeB = true) (hI : Fs w vi Is) (h6 : Is.length = 6) (hb0 : ∀ I ∈ Is, 0 < I.length ∧ I.length ≤ 1000) :
    Calls Try.prog 44 #[v, vi] w fun e w' => ∃ v', e = .returned v' ∧ w'.ownsRow w.heap.size 41 2 v' (subL Is ns).length (cellsN (subL Is ns)) ∧ Below w.heap.size w w' := by
  obtain ⟨bi, oi, ci, rfl, _, _⟩ := hI.get h6
  have hc := Lib.hid (fun w1 (hb : Below w.heap.size w w1) ib hcell => withImages1_any ib v _ ns Is w1 (h.below hb (Nat.le_refl _)) hn hp hg hcell (hI.below hb (Nat.le_refl _)) h6 hb0)
  clear h hn hp hg hI h6 hb0
  go_enter Try.func44, Try.ntmps44
  go_wp2_with fail
  refine (withImages_any _ _ _ _).mono ?_
  rintro e w1 ⟨rfl, hcell, b1⟩
  have hcell := Lib.hid hcell
  go_wp2_with fail
  refine (hc.out _ b1 _ hcell.out).mono ?_
  rintro e w2 ⟨v2, rfl, ho, b2⟩
  have ho := Lib.hid (own_mono ho b1.size)
  go_wp2_with fail
  go_ret
  exact ⟨_, rfl, ho.out, b1.trans (b2.mono b1.size)⟩


theorem replL_len {ns : List Nd} {u : Nat} {bs : List Nd} (hf : formB ns = true) (hg : formB bs = true) : (replL ns (u : Int) bs).length ≤ 100000 := by
  obtain ⟨hp0, hp1⟩ := form_len3 hf
  obtain ⟨hq0, hq1⟩ := form_len3 hg
  have h1 := subL_len ((selfL 6).set u bs) (fun I hI => ((repl_images (u := u) hq0 hq1).2 I hI).2) ns
  unfold replL
  rw [Int.toNat_natCast]
  have := Nat.mul_le_mul_right 1000 hp1
  omega

end Go.Proofs.Ytdpnkojchimmfaa
