
/- A braiding of the reference under construction. -/
import Derived.Test.YthjlpgaoemdmkaaKBr
import Derived.Test.YthjlpgaoemdmkaaCB7
namespace Go.Proofs.Ythjlpgaoemdmkaa
open Go Go.RowKit Grp
set_option linter.unusedSimpArgs false
set_option linter.unusedVariables false
set_option maxRecDepth 100000

/-- A braiding of the reference under construction: the result's slot r, its orders before S, its cube from S to g, its struct in g, its table's blocks behind g. -/
structure SBr (w : World) (r S g : Nat) (vo : Value) (os : List Int) (M : Int) (vv : Value) (xs : Tb) (vt : Value) (ts : List (List Int)) (wr : World) : Prop where
  res : Blk wr r 37 #[.slice none 0 0, .int .i64 0, .slice none 0 0, .slice none 0 0]
  out : Blk wr g 37 #[vo, .int .i64 M, vv, vt]
  ords : E1 wr vo os (fun b => r < b ∧ b < S)
  vals : E3 wr vv xs (fun b => S ≤ b ∧ b < g)
  tab : Grow E1 22 (g + 1) wr vt ts
  lo : w.heap.size ≤ r
  rS : r < S
  Sg : S ≤ g
  below : Below w.heap.size w wr
section
variable {w wr w' : World} {r S g : Nat} {vo : Value} {os : List Int} {M : Int} {vv vt v2 : Value} {xs ys : Tb} {ts ts' : List (List Int)}
theorem SBr.fr (h : SBr w r S g vo os M vv xs vt ts wr) (hw : Wr wr w' (fun b => (S ≤ b ∧ b < g) ∨ wr.heap.size ≤ b)) (hv : E3 w' vv ys (fun b => S ≤ b ∧ b < g)) : SBr w r S g vo os M vv ys vt ts w' := by
  have hlo := h.lo
  have hrS := h.rS
  have hSg := h.Sg
  have hgl := h.out.lt
  have hs := h.below.size
  refine ⟨hw.blk h.res (by omega), hw.blk h.out (by omega), E1.wr' h.ords hw (fun b h1 h2 => by have := h1.2; rcases h2 with h2 | h2 <;> omega), hv, h.tab.wr kp1 hw (fun b hb => by rcases hb with hb | hb; exact .inr (by omega); exact .inl hb), h.lo, h.rS, h.Sg, h.below.trans (hw.below (fun b hb => by rcases hb with hb | hb <;> omega) hs)⟩
theorem SBr.bel (h : SBr w r S g vo os M vv xs vt ts wr) (hb : Below wr.heap.size wr w') : SBr w r S g vo os M vv xs vt ts w' :=
  ⟨h.res.all hb, h.out.all hb, E1.below h.ords hb, E3.below h.vals hb, h.tab.bel kp1 hb, h.lo, h.rS, h.Sg, h.below.trans (hb.mono h.below.size)⟩
theorem SBr.next (h : SBr w r S g vo os M vv xs vt ts wr) (hB : Below (g + 1) wr w') (hG : Grow E1 22 (g + 1) w' v2 ts') : SBr w r S g vo os M vv xs v2 ts' (w'.setCell ⟨g, 3, none⟩ v2) := by
  have hgl := h.out.lt
  have hrl := h.res.lt
  have hsz := hB.size
  have hlo := h.lo
  have hrS := h.rS
  have hSg := h.Sg
  have out' : Blk w' g 37 #[vo, .int .i64 M, vv, vt] := h.out.below hB (by omega)
  have res' : Blk w' r 37 #[.slice none 0 0, .int .i64 0, .slice none 0 0, .slice none 0 0] := h.res.below hB (by omega)
  have ords' : E1 w' vo os (fun b => r < b ∧ b < S) := kp1 _ _ _ _ _ h.ords (fun b hb' => hB.block b (by have := hb'.2; omega)) hsz
  have vals' : E3 w' vv xs (fun b => S ≤ b ∧ b < g) := kp3 _ _ _ _ _ h.vals (fun b hb' => hB.block b (by have := hb'.2; omega)) hsz
  have hw : Wr w' (w'.setCell ⟨g, 3, none⟩ v2) (fun b => b = g) := ⟨rfl, rfl, rfl, by simp [World.setCell], fun b _ hn => Below.heap_setCell _ _ _ _ (fun e => hn (show b = g from e.symm ▸ rfl))⟩
  exact ⟨res'.far (by simp; omega) _, out'.store 3 _, E1.wr' ords' hw (fun b h1 h2 => by have := h1.2; omega), E3.wr' vals' hw (fun b h1 h2 => by have := h1.2; omega), hG.wr kp1 hw (fun b hb' => by right; omega), h.lo, h.rS, h.Sg, (h.below.trans (hB.mono (by omega))).setCell (by simp; omega) _⟩
end
def put4 (w : World) (g : Nat) (x y z u : Value) : World := (put3 w g x y z).setCell ⟨g, 3, none⟩ u
section
variable {w : World} {g : Nat} {t : TypeId} {a b c d x y z u : Value}
theorem put4_blk (h : Blk w g t #[a, b, c, d]) : Blk (put4 w g x y z u) g t #[x, y, z, u] := (((h.store 0 x).store 1 y).store 2 z).store 3 u
theorem put4_below {B : Nat} {w0 : World} (h : Below B w0 w) (hB : B ≤ g) : Below B w0 (put4 w g x y z u) := (put3_below h hB).setCell hB u
theorem put4_size : (put4 w g x y z u).heap.size = w.heap.size := by simp [put4, put3, World.setCell]
theorem put4_wr : Wr w (put4 w g x y z u) (fun b => b = g) := ⟨rfl, rfl, rfl, by rw [put4_size]; exact Nat.le_refl _, fun b _ hn => by
  unfold put4 put3
  have hne : ∀ i, b ≠ (⟨g, i, none⟩ : Addr).block := fun i e => hn e
  rw [Below.heap_setCell _ ⟨g, 3, none⟩ _ b (hne 3), Below.heap_setCell _ ⟨g, 2, none⟩ _ b (hne 2), Below.heap_setCell _ ⟨g, 1, none⟩ _ b (hne 1), Below.heap_setCell _ ⟨g, 0, none⟩ _ b (hne 0)]⟩
end
theorem SBr.fin {w wr : World} {r S g : Nat} {vo : Value} {os : List Int} {M : Int} {vv vt : Value} {xs : Tb} {ts : List (List Int)} (h : SBr w r S g vo os M vv xs vt ts wr) (hM : i64ok M) :
    ∃ v, (.returned (.agg #[vo, .int .i64 M, vv, vt]) : Ending) = .returned v ∧ braiding_E (put4 wr r vo (.int .i64 M) vv vt) v ((os, M, xs), ts) (fun b => w.heap.size ≤ b ∧ b < (put4 wr r vo (.int .i64 M) vv vt).heap.size) ∧ Below w.heap.size w (put4 wr r vo (.int .i64 M) vv vt) := by
  have hw : Wr wr (put4 wr r vo (.int .i64 M) vv vt) (fun b => b = r) := put4_wr
  have hlo := h.lo
  have hrS := h.rS
  have hSg := h.Sg
  have hgl := h.out.lt
  have hts : E2 wr vt ts (fun b => g + 1 ≤ b ∧ b < wr.heap.size) := h.tab.toL
  have hsz : (put4 wr r vo (.int .i64 M) vv vt).heap.size = wr.heap.size := put4_size
  refine ⟨_, rfl, ⟨vo, .int .i64 M, vv, vt, fun b => r < b ∧ b < g, fun b => g + 1 ≤ b ∧ b < wr.heap.size, rfl, ⟨hM, vo, vv, fun b => r < b ∧ b < S, fun b => S ≤ b ∧ b < g, rfl, E1.wr' h.ords hw (fun b h1 h2 => by have := h1.1; omega), E3.wr' h.vals hw (fun b h1 h2 => by have := h1.1; omega), fun b h1 h2 => by have := h1.2; have := h2.1; omega, fun b hb => ⟨hb.1, by have := hb.2; omega⟩, fun b hb => ⟨by have := hb.1; omega, hb.2⟩, fun b hb => by rw [hsz]; have := hb.2; omega⟩, kp2 _ _ _ _ _ hts (fun b hb => hw.block b hb.2 (by have := hb.1; omega)) hw.size, fun b h1 h2 => by have := h1.2; have := h2.1; omega, fun b hb => ?_, fun b hb => ?_, fun b hb => hb.2⟩, put4_below h.below h.lo⟩
  · have := hb.1; have := hb.2; rw [hsz]; omega
  · have := hb.1; have := hb.2; rw [hsz]; omega
end Go.Proofs.Ythjlpgaoemdmkaa
