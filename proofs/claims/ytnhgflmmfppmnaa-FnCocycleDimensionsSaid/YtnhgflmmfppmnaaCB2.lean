
/- The walk of cocycleBy over a closure. -/
import Derived.Test.YtnhgflmmfppmnaaCB1
import Derived.Test.YtnhgflmmfppmnaaKC
import Derived.Test.YtnhgflmmfppmnaaCI2
import Derived.Test.YtnhgflmmfppmnaaC2
namespace Go.Proofs.Ytnhgflmmfppmnaa
open Go Go.RowKit Grp
set_option linter.unusedSimpArgs false
set_option linter.unusedVariables false
set_option maxRecDepth 100000

/-- A cochain under construction: its struct in block g, the result's slot r; S: all of it lies below S. -/
structure CBy (w : World) (r g : Nat) (vo : Value) (os : List Int) (M : Int) (vv : Value) (xs : Tb) (wr : World) : Prop where
  res : Blk wr r 37 #[.slice none 0 0, .int .i64 0, .slice none 0 0]
  out : Blk wr g 37 #[vo, .int .i64 M, vv]
  ords : E1 wr vo os (fun b => r < b ∧ b < g)
  vals : Grow E2 39 (g + 1) wr vv xs
  lo : w.heap.size ≤ r
  rg : r < g
  below : Below w.heap.size w wr
theorem CBy.bel {w wr w' : World} {r g : Nat} {vo : Value} {os : List Int} {M : Int} {vv : Value} {xs : Tb} (h : CBy w r g vo os M vv xs wr) (hb : Below wr.heap.size wr w') : CBy w r g vo os M vv xs w' :=
  ⟨h.res.all hb, h.out.all hb, E1.below h.ords hb, h.vals.bel kp2 hb, h.lo, h.rg, h.below.trans (hb.mono h.below.size)⟩
theorem CBy.next {w wr w4 w' : World} {r g : Nat} {vo : Value} {os : List Int} {M : Int} {vv v2 : Value} {xs ys : Tb} (h : CBy w r g vo os M vv xs wr) (hb : Below wr.heap.size wr w4) (hB : Below (g + 1) w4 w') (hG : Grow E2 39 (g + 1) w' v2 ys) :
    CBy w r g vo os M v2 ys (w'.setCell ⟨g, 2, none⟩ v2) := by
  have h4 := h.bel hb
  have hgl := h4.out.lt
  have hrl := h4.res.lt
  have hsz := hB.size
  have out' : Blk w' g 37 #[vo, .int .i64 M, vv] := h4.out.below hB (by omega)
  have res' : Blk w' r 37 #[.slice none 0 0, .int .i64 0, .slice none 0 0] := h4.res.below hB (by have := h.rg; omega)
  have ords' : E1 w' vo os (fun b => r < b ∧ b < g) := kp1 _ _ _ _ _ h4.ords (fun b hb' => hB.block b (by have := hb'.2; omega)) hsz
  have hw : Wr w' (w'.setCell ⟨g, 2, none⟩ v2) (fun b => b = g) := ⟨rfl, rfl, rfl, by simp [World.setCell], fun b _ hn => Below.heap_setCell _ _ _ _ (fun e => hn (show b = g from e.symm ▸ rfl))⟩
  exact ⟨res'.far (by have := h.rg; simp; omega) _, out'.store 2 _, E1.wr' ords' hw (fun b h1 h2 => by have := h1.2; omega), hG.wr kp2 hw (fun b hb' => by right; omega), h.lo, h.rg, (h4.below.trans (hB.mono (by have := h.lo; have := h.rg; omega))).setCell (by have := h.lo; have := h.rg; simp; omega) _⟩
theorem CBy.fin {w wr : World} {r g : Nat} {vo : Value} {os : List Int} {M : Int} {vv : Value} {xs : Tb} (h : CBy w r g vo os M vv xs wr) :
    ∃ u1 u2 F1 F2, (.agg #[vo, .int .i64 M, vv] : Value) = .agg #[u1, .int .i64 M, u2] ∧ E1 (put3 wr r vo (.int .i64 M) vv) u1 os F1 ∧ E3 (put3 wr r vo (.int .i64 M) vv) u2 xs F2 ∧ (∀ b, F1 b → F2 b → False) ∧ (∀ b, F1 b → w.heap.size ≤ b ∧ b < (put3 wr r vo (.int .i64 M) vv).heap.size) ∧ (∀ b, F2 b → w.heap.size ≤ b ∧ b < (put3 wr r vo (.int .i64 M) vv).heap.size) ∧ (∀ b, (w.heap.size ≤ b ∧ b < (put3 wr r vo (.int .i64 M) vv).heap.size) → b < (put3 wr r vo (.int .i64 M) vv).heap.size) := by
  have hw : Wr wr (put3 wr r vo (.int .i64 M) vv) (fun b => b = r) := ⟨rfl, rfl, rfl, by rw [put3_size]; exact Nat.le_refl _, fun b _ hn => by
    unfold put3
    have hne : ∀ i, b ≠ (⟨r, i, none⟩ : Addr).block := fun i e => hn e
    rw [Below.heap_setCell _ ⟨r, 2, none⟩ _ b (hne 2), Below.heap_setCell _ ⟨r, 1, none⟩ _ b (hne 1), Below.heap_setCell _ ⟨r, 0, none⟩ _ b (hne 0)]⟩
  have hlo := h.lo
  have hrg := h.rg
  have hgl := h.out.lt
  refine ⟨_, _, _, _, rfl, E1.wr' h.ords hw (fun b h1 h2 => by have := h1.1; omega), E3.wr' (show E3 wr vv xs _ from h.vals.toL) hw (fun b h1 h2 => by have := h1.1; omega), fun b h1 h2 => by have := h1.2; have := h2.1; omega, fun b hb => ?_, fun b hb => ?_, fun b hb => hb.2⟩
  · have := hb.1; have := hb.2; rw [put3_size]; omega
  · have := hb.1; have := hb.2; rw [put3_size]; omega
theorem cub_snoc' {n k : Nat} {f : Nat → Nat → Nat → Int} : ((List.range k).map fun x => mat n fun y z => f x y z) ++ [mat n fun y z => f k y z] = (List.range (k + 1)).map fun x => mat n fun y z => f x y z := by simp [List.range_succ]
end Go.Proofs.Ytnhgflmmfppmnaa
