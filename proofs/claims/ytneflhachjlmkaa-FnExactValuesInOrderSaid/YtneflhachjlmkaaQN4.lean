
/- A map of integers beside what the call owns; leaders and values in hand. -/
import Derived.Test.YtneflhachjlmkaaQN3
import Derived.Test.YtneflhachjlmkaaOtc
import Derived.Maps.OwnSet
namespace Go.Proofs.Ytneflhachjlmkaa
open Go Go.RowKit Grp
set_option linter.unusedSimpArgs false
set_option linter.unusedVariables false
set_option maxRecDepth 100000
theorem law64 : Maps.Keyed Try.prog 2 := Maps.int_keyed Try.underlying2
theorem zero64 (w : World) : (zeroValue 2).run Try.prog w = .ok (.int .i64 0) w := by kernel_rfl
theorem key64 {x : Int} (h : i64ok x) : keyOf Try.prog 2 (.int .i64 x) = some (.int .i64 x) := Maps.keyOf_int_mk Try.underlying2 (WalkArith.wf_i64 (by unfold i64ok at h; omega))
/-- Block b is a map of int64 to int64 that reads as M, of at most n entries. -/
def Mp (w : World) (b n : Nat) (M : DataW Unit) : Prop := w.ownsMap Try.prog 2 (plainElem Try.prog 2) b n M
section
variable {w w' : World} {b n : Nat} {M : DataW Unit}
theorem Mp.lt (h : Mp w b n M) : b < w.heap.size := World.ownsMap.lt h
theorem Mp.below (h : Mp w b n M) (hb : Below w.heap.size w w') : Mp w' b n M := by
  have hlt := h.lt
  obtain ⟨es, clock, h1, r⟩ := h
  exact ⟨es, clock, (hb.block b hlt).trans h1, r⟩
theorem Mp.grown (h : Mp w b n M) {row : Option Nat} (hg : w.grownBy w' row) (hne : some b ≠ row) : Mp w' b n M := World.ownsMap.kept h hg hne
theorem Mp.setCell (h : Mp w b n M) {p : Addr} (hp : b ≠ p.block) (u : Value) : Mp (w.setCell p u) b n M := World.ownsMap.setCell h hp u
theorem Mp.ne (h : Mp w b n M) {g : Nat} {t : TypeId} {cs : Array Value} (hb : Blk w g t cs) : b ≠ g := by
  obtain ⟨es, clock, h1, _⟩ := h
  rintro rfl
  unfold Blk at hb
  rw [h1] at hb
  cases hb
theorem Mp.neO (h : Mp w b n M) {B : Nat} {v : Value} {xs : List Int} (ho : Ow w B v xs) : some b ≠ v.ownBlock := by
  obtain ⟨es, clock, h1, _⟩ := h
  obtain ⟨_, h2⟩ := ho
  rcases h2 with ⟨rfl, _⟩ | ⟨g, cap, cur, rfl, hg, hh, _⟩
  · simp [Value.ownBlock]
  · simp only [Value.ownBlock]
    intro e
    injection e with e
    subst e
    rw [h1] at hh
    cases hh
end
theorem wp_mapSet {o : Oper} {a : Act} {K : Act → World → Prop} {Q : Exit → Act → World → Prop} (w : World) (m x v : Operand) (t : TypeId) (hop : o.op = Op.mapUpdate t m x v) (ht : Try.prog.underlying t = some (.map 2 2))
    (b n : Nat) (M : DataW Unit) (hm : a.eval m = .map (some b)) (hown : Mp w b n M) (hn : n < 1048576) (x0 y0 : Int) (hx : a.eval x = .int .i64 x0) (hv : a.eval v = .int .i64 y0) (hx0 : i64ok x0) (hy0 : i64ok y0)
    (hK : ∀ w', Mp w' b (n + 1) (M.put (.int .i64 x0) (.lit (.int .i64 y0))) → w.grownBy w' (some b) → K (a.put o.dst undef) w') : o.wp Try.prog a w K Q := by
  obtain ⟨w', hrun, r1, r2⟩ := World.ownsMap.update hown law64 ht (by unfold maxLen; omega) (key64 hx0) (plainElem_int Try.underlying2 (a := y0) (WalkArith.wf_i64 (by unfold i64ok at hy0; omega)))
  unfold Oper.wp
  simp [execOp, hop, hm, hx, hv, hrun, Result.andThen]
  exact hK w' r1 r2
theorem wp_pushN {o : Oper} {a : Act} {K : Act → World → Prop} {Q : Exit → Act → World → Prop} (w : World) (s x : Operand)
    (ho : o.op = .call { callee := .builtin .append, args := #[s, x], argTypes := #[22, 22] })
    (B : Nat) (v : Value) (xs : List Int) (hs : a.eval s = v) (hown : Ow w B v xs) (y : Int) (H T N : Nat) (hx : a.eval x = .slice (some ⟨H, 0, none⟩) 1 1) (hb : Blk w H T #[.int .i64 y])
    (hn : xs.length ≤ 1048576) (hB : B ≤ w.heap.size) (hH : w.heap.size = N + 1)
    (h : ∀ g cap w', Pushed w B v xs y N g cap w' → K (a.put o.dst (.slice (some ⟨g, 0, none⟩) (xs.length + 1) cap)) w') : o.wp Try.prog a w K Q := by
  obtain ⟨i0, hi0, hz0, hz1, hz2⟩ := info_parts int_info
  refine wp_append_lies w s x _ ho B 2 i0 _ 1 8 Try.underlying22 hi0 hz0 hz1 hz2 rfl (by omega) v xs.length _ hs hown ⟨H, 0, none⟩ 1 1 [.int .i64 y] hx rfl
    (World.news_of_block (cs := #[.int .i64 y]) hb) (by simp [Value.oneCell']) (by omega) (by unfold maxLen; omega) (by omega) hB (N + 1) hH ?_
  intro g cap w' h2 h3 h4 h5
  refine h g cap w' ⟨?_, h3, h4, h5⟩
  unfold Ow
  simpa using h2
/-- Leaders and values in hand, the struct in block g still holding the elder slices. -/
structure QHd (w : World) (g bM n : Nat) (M : DataW Unit) (vO v1 v2 vL vV : Value) (O L V : List Int) (q : Int) (wr : World) : Prop where
  orth : Ow wr w.heap.size vO O
  out : Blk wr g 40 #[v1, .slice none 0 0, .int .i64 q, v2]
  lds : Ow wr w.heap.size vL L
  vals : Ow wr w.heap.size vV V
  aO : Apart vO vL
  aV : Apart vO vV
  aL : Apart vL vV
  mp : Mp wr bM n M
  below : Below w.heap.size w wr
section
variable {w wr w1 w2 : World} {g bM n : Nat} {M : DataW Unit} {vO v1 v2 vL vV : Value} {O L V : List Int} {q : Int}
theorem QIn.hand (h : QIn w g vO vL vV O L V q wr) (hM : Mp wr bM n M) : QHd w g bM n M vO vL vV vL vV O L V q wr := ⟨h.orth, h.out, h.lds, h.vals, h.aO, h.aV, h.aL, hM, h.below⟩
theorem QHd.all (h : QHd w g bM n M vO v1 v2 vL vV O L V q wr) (hb : Below wr.heap.size wr w1) : QHd w g bM n M vO v1 v2 vL vV O L V q w1 :=
  ⟨h.orth.below hb, h.out.all hb, h.lds.below hb, h.vals.below hb, h.aO, h.aV, h.aL, h.mp.below hb, h.below.trans (hb.mono h.below.size)⟩
theorem QHd.pushL (h : QHd w g bM n M vO v1 v2 vL vV O L V q wr) {y : Int} {N g' cap : Nat} (hN : ∀ b v xs, Ow wr w.heap.size v xs → v.ownBlock = some b → b ≠ N + 1) (hP : Pushed wr w.heap.size vL L y N g' cap w2) :
    QHd w g bM n M vO v1 v2 (.slice (some ⟨g', 0, none⟩) (L.length + 1) cap) vV O (L ++ [y]) V q w2 :=
  ⟨hP.far h.orth h.aO, hP.blk h.lds h.out (by decide), hP.own, hP.far h.vals h.aL.symm, hP.apart (fun b hb => hN b _ _ h.orth hb) h.aO, h.aV, (hP.apart (fun b hb => hN b _ _ h.vals hb) h.aL.symm).symm, h.mp.grown hP.2.1 (h.mp.neO h.lds), h.below.trans (hP.below h.lds h.below.size)⟩
theorem QHd.pushV (h : QHd w g bM n M vO v1 v2 vL vV O L V q wr) {y : Int} {N g' cap : Nat} (hN : ∀ b v xs, Ow wr w.heap.size v xs → v.ownBlock = some b → b ≠ N + 1) (hP : Pushed wr w.heap.size vV V y N g' cap w2) :
    QHd w g bM n M vO v1 v2 vL (.slice (some ⟨g', 0, none⟩) (V.length + 1) cap) O L (V ++ [y]) q w2 :=
  ⟨hP.far h.orth h.aV, hP.blk h.vals h.out (by decide), hP.far h.lds h.aL, hP.own, h.aO, hP.apart (fun b hb => hN b _ _ h.orth hb) h.aV, hP.apart (fun b hb => hN b _ _ h.lds hb) h.aL, h.mp.grown hP.2.1 (h.mp.neO h.vals), h.below.trans (hP.below h.vals h.below.size)⟩
/-- Both slices are stored into the struct. -/
theorem QHd.stores (h : QHd w g bM n M vO v1 v2 vL vV O L V q wr) (hg : w.heap.size ≤ g) :
    QIn w g vO vL vV O L V q ((wr.setCell ⟨g, 0, none⟩ vL).setCell ⟨g, 3, none⟩ vV) ∧ Mp ((wr.setCell ⟨g, 0, none⟩ vL).setCell ⟨g, 3, none⟩ vV) bM n M := by
  have o1 := h.out.store 0 vL
  have hne := h.mp.ne h.out
  exact ⟨⟨(h.orth.setCell h.out (by decide) _ _).setCell o1 (by decide) _ _, o1.store 3 _, (h.lds.setCell h.out (by decide) _ _).setCell o1 (by decide) _ _, (h.vals.setCell h.out (by decide) _ _).setCell o1 (by decide) _ _, h.aO, h.aV, h.aL, (h.below.setCell hg _).setCell hg _⟩, (h.mp.setCell hne _).setCell hne _⟩
/-- The map alone has turned. -/
theorem QIn.map (h : QIn w g vO vL vV O L V q wr) (hM : Mp wr bM n M) (hg : wr.grownBy w1 (some bM)) (hB : w.heap.size ≤ bM) : QIn w g vO vL vV O L V q w1 := by
  have hw : Wr wr w1 (fun b => b = bM) := Wr.of_grown hg (fun b e => by injection e with e; exact e.symm)
  refine ⟨hw.own h.orth (fun b hb e => hM.neO h.orth (by rw [hb, e])), hw.blk h.out (hM.ne h.out).symm, hw.own h.lds (fun b hb e => hM.neO h.lds (by rw [hb, e])), hw.own h.vals (fun b hb e => hM.neO h.vals (by rw [hb, e])), h.aO, h.aV, h.aL, h.below.trans (hw.below (fun b hb => by omega) h.below.size)⟩
end
end Go.Proofs.Ytneflhachjlmkaa
