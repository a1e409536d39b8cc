
/- The walk of l17Normal of the reference. -/
import Derived.Test.YtnhgflmmfppmnaaCS1
namespace Go.Proofs.Ytnhgflmmfppmnaa
open Go Go.RowKit Grp
set_option linter.unusedSimpArgs false
set_option linter.unusedVariables false
set_option maxRecDepth 100000

def nrAt (t : Tb) (x y : Nat) : Prop := t3 t 0 x y = 0 ∧ t3 t x 0 y = 0 ∧ t3 t x y 0 = 0
theorem nrm_of {t : Tb} (h : ∀ x y, x < t.length → y < t.length → nrAt t x y) : Nrm t := by
  intro x y z hx hy hz h0
  rcases h0 with rfl | rfl | rfl
  · exact (h y z hy hz).1
  · exact (h x z hx hz).2.1
  · exact (h x y hx hy).2.2
theorem nrB_no {t : Tb} {x y : Nat} (hx : x < t.length) (hy : y < t.length) (h : ¬ nrAt t x y) : nrB t = false := nrB_f fun hn => h ⟨hn 0 x y (by omega) hx hy (.inl rfl), hn x 0 y hx (by omega) hy (.inr (.inl rfl)), hn x y 0 hx hy (by omega) (.inr (.inr rfl))⟩
theorem oret {w W : World} {o : Option (List Int)} {xs : List Int} (E : o = some xs) (hb : Below w.heap.size w W) {d : Nat} {cs : Array Value} (hc : cs.toList = xs.map (Value.int .i64)) {n g : Nat} (hn : xs.length = n) (hm : n ≤ maxLen) (hg : W.heap.size = g) :
    MkO w o (.returned (.slice (some ⟨g, 0, none⟩) n n)) ((W.drewN d).alloc (.cells cs 2)) := by
  subst hg
  rw [E]
  exact mkO_new (w0 := w) (Blk.new' _ _ _ _ rfl) hc hn hb.size hm ((below_drewN hb d).alloc hb.size _)
theorem cf5 {a b c e f : Int} (ha : 0 ≤ a ∧ a ≤ 999) (hb : 0 ≤ b ∧ b ≤ 999) (hc : 0 ≤ c ∧ c ≤ 999) (he : 0 ≤ e ∧ e ≤ 999) (hf : 0 ≤ f ∧ f ≤ 999) :
    IntKind.i64.wrap (a - b) = a - b ∧ IntKind.i64.wrap (a - b + c) = a - b + c ∧ IntKind.i64.wrap (a - b + c - e) = a - b + c - e ∧ IntKind.i64.wrap (a - b + c - e + f) = a - b + c - e + f ∧ -1998 ≤ a - b + c - e + f ∧ a - b + c - e + f ≤ 2997 :=
  ⟨wr64 _ ⟨by omega, by omega⟩, wr64 _ ⟨by omega, by omega⟩, wr64 _ ⟨by omega, by omega⟩, wr64 _ ⟨by omega, by omega⟩, by omega, by omega⟩
end Go.Proofs.Ytnhgflmmfppmnaa
