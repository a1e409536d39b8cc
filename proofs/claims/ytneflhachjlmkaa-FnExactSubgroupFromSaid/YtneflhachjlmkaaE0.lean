
/- Words for what the functions on metrics return. -/
import Derived.Test.YtneflhachjlmkaaE1
import Derived.WalkLawsBesides
namespace Go.Proofs.Ytneflhachjlmkaa
open Go Go.RowKit Grp
set_option linter.unusedSimpArgs false
set_option linter.unusedVariables false

/-- It returned a Bool and a code; what lay before lies as it lay. -/
def ReB (w : World) (a : Bool) (b : Int) (e : Ending) (w' : World) : Prop := e = .returned (.tuple #[.bool a, .int .i64 b]) ∧ Below w.heap.size w w'
noncomputable def codeM (os : List Int) (D : Int) (vs : List Int) : Int := if isM os D vs = true then 0 else 1
/-- It returned two numbers; what lay before lies as it lay. -/
def Re2 (w : World) (a b : Int) (e : Ending) (w' : World) : Prop := e = .returned (.tuple #[.int .i64 a, .int .i64 b]) ∧ Below w.heap.size w w'
theorem sl_two (W : World) (g : Nat) (hg : W.heap.size = g) (x y : Int) (hx : i64ok x) (hy : i64ok y) :
    Sl (W.alloc (.cells #[.int .i64 x, .int .i64 y] 2)) (W.alloc (.cells #[.int .i64 x, .int .i64 y] 2)).heap.size (some ⟨g, 0, none⟩) 2 2 [x, y] := by
  subst hg
  refine ⟨rfl, by omega, fun v hv => ?_, fun _ => ⟨_, _, rfl, by simp, fun k hk => ?_⟩, fun h => by cases h⟩
  · simp only [List.mem_cons, List.not_mem_nil, or_false] at hv
    rcases hv with rfl | rfl <;> assumption
  · refine ((Blk.new W _ _).cell (0 + k)).trans ?_
    obtain rfl | rfl : k = 0 ∨ k = 1 := by omega
    all_goals rfl
theorem sl_one (W : World) (g : Nat) (hg : W.heap.size = g) (x : Int) (hx : i64ok x) :
    Sl (W.alloc (.cells #[.int .i64 x] 2)) (W.alloc (.cells #[.int .i64 x] 2)).heap.size (some ⟨g, 0, none⟩) 1 1 [x] := by
  subst hg
  refine ⟨rfl, by omega, fun v hv => ?_, fun _ => ⟨_, _, rfl, by simp, fun k hk => ?_⟩, fun h => by cases h⟩
  · simp only [List.mem_cons, List.not_mem_nil, or_false] at hv
    subst hv; assumption
  · refine ((Blk.new W _ _).cell (0 + k)).trans ?_
    obtain rfl : k = 0 := by omega
    rfl

theorem Sl.tail {w : World} {B : Nat} {b off n c : Nat} {xs : List Int} (h : Sl w B (some ⟨b, off, none⟩) n c xs) (hn : 1 ≤ n) : Sl w B (some ⟨b, off + 1, none⟩) (n - 1) (c - 1) (xs.drop 1) := by
  refine ⟨by rw [List.length_drop, h.len], by have := h.cap; omega, fun x hx => h.rng x (List.mem_of_mem_drop hx), fun hp => ?_, fun h => by cases h⟩
  obtain ⟨b', off', e, hb, hc⟩ := h.at_ (by omega)
  cases e
  refine ⟨b, off + 1, rfl, hb, fun k hk => ?_⟩
  have := hc (k + 1) (by omega)
  rw [show off + 1 + k = off + (k + 1) by omega, this]
  congr 2
  unfold gi
  rw [List.getD_eq_getElem?_getD, List.getD_eq_getElem?_getD, List.getElem?_drop, Nat.add_comm 1 k]
end Go.Proofs.Ytneflhachjlmkaa
