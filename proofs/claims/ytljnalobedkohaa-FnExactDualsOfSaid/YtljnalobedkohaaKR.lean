
/- The kind of a ring. -/
import Derived.Test.YtljnalobedkohaaKD0
import Derived.Test.YtljnalobedkohaaRL1
namespace Go.Proofs.Ytljnalobedkohaa
open Go Go.RowKit
set_option linter.unusedSimpArgs false
set_option linter.unusedVariables false
set_option maxRecDepth 100000
abbrev ring_T := Tb
def ring_R (w : World) (B : Nat) (v : Value) (x : Tb) : Prop := ∃ A n c, v = .agg #[.slice A n c] ∧ Sl3 w B A n c x
def ring_E : Own Tb := fun w v x fp => ∃ u, v = .agg #[u] ∧ E3 w u x fp
def ring_Big (x : Tb) : Prop := Big3 x
def ring_Sh (x : Tb) : Prop := Sh3 x
def ring_tot (x : Tb) : Nat := tot3 x
def ring_sum (x : Tb) : Nat := sum3 x
def ring_mk (q : Int) (x : Tb) : Tb := mark3 q x
section
variable {w w' : World} {B B' : Nat} {v : Value} {x : Tb} {fp fq : Nat → Prop}
theorem ring_form (h : ring_R w B v x) : ∃ A n c, v = .agg #[.slice A n c] ∧ Sl3 w B A n c x := h
theorem ring_keep (h : ring_R w B v x) (hb : Below B w w') (hB : B ≤ B') : ring_R w' B' v x := by
  obtain ⟨A, n, c, e, hs⟩ := h
  exact ⟨A, n, c, e, (hs.below hb).more hB⟩
theorem ring_rd (h : ring_E w v x fp) : ring_R w w.heap.size v x := by
  obtain ⟨u, rfl, he⟩ := h
  obtain ⟨A, c, rfl, hs⟩ := E3.sl3 he
  exact ⟨A, _, c, rfl, hs⟩
theorem ring_below (h : ring_E w v x fp) (hb : Below w.heap.size w w') : ring_E w' v x fp := by
  obtain ⟨u, e, he⟩ := h
  exact ⟨u, e, E3.below he hb⟩
theorem ring_wr (h : ring_E w v x fp) (hw : Wr w w' fq) (hd : ∀ b, fp b → fq b → False) : ring_E w' v x fp := by
  obtain ⟨u, e, he⟩ := h
  exact ⟨u, e, E3.wr he hw hd⟩
theorem ring_sh (h : ring_tot x ≤ 1048576) : ring_Sh x := sh_of_tot h (Nat.le_refl _)
theorem ring_sumle (x : Tb) : ring_sum x ≤ ring_tot x := sum3_le_tot3 x
end
theorem ring_sz (w : World) (v : Value) (x : Tb) (l : Int) (h : ring_R w w.heap.size v x) (hb : ring_Big x) (hl : 0 ≤ l) (hl1 : l ≤ 1048576) : Calls Try.prog 8 #[v, .int .i64 l] w (Re w (.int .i64 (szI l (ring_tot x)))) := by
  obtain ⟨A, n, c, rfl, hs⟩ := h
  exact szRing_any w A n c x l hs hl hl1 hb
theorem ring_to (w : World) (v : Value) (x : Tb) (h : ring_R w w.heap.size v x) (hs : ring_Sh x) : Calls Try.prog 10 #[v] w (MkE ring_E w x) := by
  obtain ⟨A, n, c, rfl, hl⟩ := h
  refine (toRing_any w w.heap.size A n c x hl (Nat.le_refl _) hs).mono fun e w' h => ?_
  obtain ⟨u, e1, he, hb⟩ := h
  exact ⟨_, e1, ⟨u, rfl, he⟩, hb⟩
theorem ring_eq (w : World) (v v' : Value) (x y : Tb) (h : ring_R w w.heap.size v x) (h' : ring_R w w.heap.size v' y) (hs : ring_Sh x) : Calls Try.prog 12 #[v, v'] w (Re w (.bool (x == y))) := by
  obtain ⟨A, n, c, rfl, hl⟩ := h
  obtain ⟨A', n', c', rfl, hl'⟩ := h'
  exact eqRing_any w _ A A' n n' c c' x y hl hl' (Nat.le_refl _) hs
theorem ring_mark (w : World) (v : Value) (x : Tb) (fp : Nat → Prop) (q : Int) (h : ring_E w v x fp) (hn : ring_tot x ≤ 1048576) (hq0 : 0 ≤ q) (hq1 : q ≤ 100000000) : Calls Try.prog 18 #[v, .int .i64 q] w (MrkE ring_E ring_mk ring_sum w v x fp q) := by
  obtain ⟨u, rfl, he⟩ := h
  have hs3 := sum3_le_tot3 x
  go_enter Try.func18, Try.ntmps18
  go_wp2_with fail
  have he1 : E3 (w.alloc (.cells #[u] 27)) u x fp := he.below ((Below.refl _ _).alloc (Nat.le_refl _) _)
  refine (markInt64SSS_any _ u x fp q he1 hn hq0 hq1).mono ?_
  rintro e w1 ⟨rfl, hm, hw⟩
  have HM : ring_E w1 (.agg #[u]) (ring_mk q x) fp := ⟨u, rfl, hm⟩
  obtain ⟨s, hs⟩ : ∃ s, q + (sum3 x : Int) = s := ⟨_, rfl⟩
  have hs' : q + (ring_sum x : Int) = s := hs
  rw [hs]
  have HS := hide hs'
  clear hs hs'
  go_wp2_with fail
  go_ret
  exact ⟨by rw [HS.out]; rfl, HM, (Wr.of_below ((Below.refl _ _).alloc (Nat.le_refl _) _)).trans hw⟩
end Go.Proofs.Ytljnalobedkohaa
