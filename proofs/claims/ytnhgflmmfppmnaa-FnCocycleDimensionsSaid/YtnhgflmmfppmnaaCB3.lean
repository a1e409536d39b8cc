
/- The walks of TripleCocycle of both sides. -/
import Derived.Test.YtnhgflmmfppmnaaCB2
import Derived.Test.YtnhgflmmfppmnaaNG3
namespace Go.Proofs.Ytnhgflmmfppmnaa
open Go Go.RowKit Grp
set_option linter.unusedSimpArgs false
set_option linter.unusedVariables false
set_option maxRecDepth 100000

/-- A cochain of the reference under construction: its struct in block g, the result's slot r, its orders before S, its cube from S on. -/
structure SBy (w : World) (r S g : Nat) (vo : Value) (os : List Int) (M : Int) (vv : Value) (xs : Tb) (wr : World) : Prop where
  res : Blk wr r 37 #[.slice none 0 0, .int .i64 0, .slice none 0 0]
  out : Blk wr g 37 #[vo, .int .i64 M, vv]
  ords : E1 wr vo os (fun b => r < b ∧ b < S)
  vals : E3 wr vv xs (fun b => S ≤ b ∧ b < g)
  lo : w.heap.size ≤ r
  rS : r < S
  Sg : S ≤ g
  below : Below w.heap.size w wr
section
variable {w wr w' : World} {r S g : Nat} {vo : Value} {os : List Int} {M : Int} {vv : Value} {xs ys : Tb}
theorem SBy.bel (h : SBy w r S g vo os M vv xs wr) (hb : Below wr.heap.size wr w') : SBy w r S g vo os M vv xs w' :=
  ⟨h.res.all hb, h.out.all hb, E1.below h.ords hb, E3.below h.vals hb, h.lo, h.rS, h.Sg, h.below.trans (hb.mono h.below.size)⟩
theorem SBy.step (h : SBy w r S g vo os M vv xs wr) (hb : Below wr.heap.size wr w') {g2 z : Nat} {u : Value} (hE : E3 (w'.setCell ⟨g2, z, none⟩ u) vv ys (fun b => S ≤ b ∧ b < g)) (hg : S ≤ g2 ∧ g2 < g) : SBy w r S g vo os M vv ys (w'.setCell ⟨g2, z, none⟩ u) := by
  have h' := h.bel hb
  have hw : Wr w' (w'.setCell ⟨g2, z, none⟩ u) (fun b => b = g2) := ⟨rfl, rfl, rfl, by simp [World.setCell], fun b _ hn => Below.heap_setCell _ ⟨g2, z, none⟩ _ b (fun e => hn e)⟩
  have := h.rS
  have := h.lo
  exact ⟨hw.blk h'.res (by omega), hw.blk h'.out (by omega), E1.wr' h'.ords hw (fun b h1 h2 => by have := h1.2; omega), hE, h.lo, h.rS, h.Sg, h'.below.setCell (by simp; omega) _⟩
theorem SBy.fin (h : SBy w r S g vo os M vv xs wr) (hM : i64ok M) : ∃ v, (.returned (.agg #[vo, .int .i64 M, vv]) : Ending) = .returned v ∧ cocycle_E (put3 wr r vo (.int .i64 M) vv) v (os, M, xs) (fun b => w.heap.size ≤ b ∧ b < (put3 wr r vo (.int .i64 M) vv).heap.size) ∧ Below w.heap.size w (put3 wr r vo (.int .i64 M) vv) := by
  have hw : Wr wr (put3 wr r vo (.int .i64 M) vv) (fun b => b = r) := ⟨rfl, rfl, rfl, by rw [put3_size]; exact Nat.le_refl _, fun b _ hn => by
    unfold put3
    have hne : ∀ i, b ≠ (⟨r, i, none⟩ : Addr).block := fun i e => hn e
    rw [Below.heap_setCell _ ⟨r, 2, none⟩ _ b (hne 2), Below.heap_setCell _ ⟨r, 1, none⟩ _ b (hne 1), Below.heap_setCell _ ⟨r, 0, none⟩ _ b (hne 0)]⟩
  have hlo := h.lo
  have hrS := h.rS
  have hSg := h.Sg
  have hgl := h.out.lt
  refine ⟨_, rfl, ⟨hM, _, _, _, _, rfl, E1.wr' h.ords hw (fun b h1 h2 => by have := h1.1; omega), E3.wr' h.vals hw (fun b h1 h2 => by have := h1.1; omega), fun b h1 h2 => by have := h1.2; have := h2.1; omega, fun b hb => ?_, fun b hb => ?_, fun b hb => hb.2⟩, put3_below h.below h.lo⟩
  · have := hb.1; have := hb.2; rw [put3_size]; omega
  · have := hb.1; have := hb.2; rw [put3_size]; omega
end
theorem cocycle_put {w W w1 : World} {v : Value} {x : cocycle_T} {r : Nat} {a b' c : Value} (he : cocycle_E w1 v x (fun b => W.heap.size ≤ b ∧ b < w1.heap.size)) (hb : Below w.heap.size w w1) (hr : r < W.heap.size) (hw : w.heap.size ≤ r) :
    cocycle_E (put3 w1 r a b' c) v x (fun b => w.heap.size ≤ b ∧ b < (put3 w1 r a b' c).heap.size) := by
  have hwr : Wr w1 (put3 w1 r a b' c) (fun b => b = r) := ⟨rfl, rfl, rfl, by rw [put3_size]; exact Nat.le_refl _, fun b _ hn => by
    unfold put3
    have hne : ∀ i, b ≠ (⟨r, i, none⟩ : Addr).block := fun i e => hn e
    rw [Below.heap_setCell _ ⟨r, 2, none⟩ _ b (hne 2), Below.heap_setCell _ ⟨r, 1, none⟩ _ b (hne 1), Below.heap_setCell _ ⟨r, 0, none⟩ _ b (hne 0)]⟩
  exact cocycle_mono (cocycle_wr he hwr fun b h1 h2 => by have := h1.1; omega) (fun b hb => ⟨by have := hb.1; omega, by rw [put3_size]; exact hb.2⟩) (fun b hb => hb.2)
def tri (x y z : Nat) : Int := (x : Int) / 4 * ((y : Int) / 2 % 2) * ((z : Int) % 2)
theorem tri_rng (x y z : Nat) (hx : x < 8) : 0 ≤ tri x y z ∧ tri x y z ≤ 1 := by
  unfold tri
  have a : (x : Int) / 4 = 0 ∨ (x : Int) / 4 = 1 := by omega
  have b : (y : Int) / 2 % 2 = 0 ∨ (y : Int) / 2 % 2 = 1 := by omega
  have c : (z : Int) % 2 = 0 ∨ (z : Int) % 2 = 1 := by omega
  rcases a with a | a <;> rcases b with b | b <;> rcases c with c | c <;> rw [a, b, c] <;> decide
theorem triple_ok : OkH [2, 2, 2] := ⟨by decide, by decide, by decide, by decide⟩
def triC : cocycle_T := ([2, 2, 2], 2, cub 8 tri)
theorem triM_eq : (([2, 2, 2], 2, cub (prodL [2, 2, 2]).toNat fun x y z => tri x y z % 2) : cocycle_T) = triC := by
  have h : cub 8 (fun x y z => tri x y z % 2) = cub 8 tri := cub_congr fun x y z hx _ _ => by
    have := tri_rng x y z hx
    exact Int.emod_eq_of_lt (by omega) (by omega)
  unfold triC
  rw [show (prodL [2, 2, 2]).toNat = 8 by decide, h]
end Go.Proofs.Ytnhgflmmfppmnaa
