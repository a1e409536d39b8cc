
/- append of one element to a row of int64 of the call's own: at a plain list of operations and at a step of a region that draws its order. -/
import Derived.Test.YtneflhachjlmkaaChecked
import Derived.Test.YtneflhachjlmkaaBase
namespace Go.Proofs.Ytneflhachjlmkaa
open Go Go.RowKit

theorem int_info : (Try.prog.info? 2).map (fun i => (i.zero, i.size, i.bytes)) = some (some (.int .i64 0), 1, 8) := by kernel_rfl

/-- What stands behind an append of y to the row v of the call's own, the element having been laid in block H. -/
def Pushed (w : World) (B : Nat) (v : Value) (xs : List Int) (y : Int) (H g cap : Nat) (w' : World) : Prop :=
  Ow w' B (.slice (some ⟨g, 0, none⟩) (xs.length + 1) cap) (xs ++ [y]) ∧ w.grownBy w' v.ownBlock ∧ (v.ownBlock = some g ∨ g = H + 1) ∧ g < w'.heap.size

section
variable {ops : Array Oper} {rest : List Oper} {o : Oper} {a : Act} {K : Act → World → Prop} {Q : Exit → Act → World → Prop}
theorem wp_push (w : World) (s x : Operand)
    (ho : o.op = .call { callee := .builtin .append, args := #[s, x], argTypes := #[22, 22] })
    (B : Nat) (v : Value) (xs : List Int) (hs : a.eval s = v) (hown : Ow w B v xs) (y : Int) (H T : Nat) (hx : a.eval x = .slice (some ⟨H, 0, none⟩) 1 1) (hb : Blk w H T #[.int .i64 y])
    (hn : xs.length ≤ 1048576) (hB : B ≤ w.heap.size) (hH : w.heap.size = H + 1)
    (h : ∀ g cap w', Pushed w B v xs y H g cap w' → K (a.put o.dst (.slice (some ⟨g, 0, none⟩) (xs.length + 1) cap)) w') : o.wp Try.prog a w K Q := by
  obtain ⟨i0, hi0, hz0, hz1, hz2⟩ := info_parts int_info
  refine wp_append_lies w s x _ ho B 2 i0 _ 1 8 Try.underlying22 hi0 hz0 hz1 hz2 rfl (by omega) v xs.length _ hs hown ⟨H, 0, none⟩ 1 1 [.int .i64 y] hx rfl
    (World.news_of_block (cs := #[.int .i64 y]) hb) (by simp [Value.oneCell']) (by omega) (by unfold maxLen; omega) (by omega) hB (H + 1) hH ?_
  intro g cap w' h2 h3 h4 h5
  refine h g cap w' ⟨?_, h3, h4, h5⟩
  unfold Ow
  simpa using h2
theorem list_push (w : World) (hgd : o.guard = none) (s x : Operand)
    (ho : o.op = .call { callee := .builtin .append, args := #[s, x], argTypes := #[22, 22] })
    (B : Nat) (v : Value) (xs : List Int) (hs : a.eval s = v) (hown : Ow w B v xs) (y : Int) (H T : Nat) (hx : a.eval x = .slice (some ⟨H, 0, none⟩) 1 1) (hb : Blk w H T #[.int .i64 y])
    (hn : xs.length ≤ 1048576) (hB : B ≤ w.heap.size) (hH : w.heap.size = H + 1)
    (h : ∀ g cap w', Pushed w B v xs y H g cap w' → wpList Try.prog ops Q rest (a.put o.dst (.slice (some ⟨g, 0, none⟩) (xs.length + 1) cap)) w') :
    wpList Try.prog ops Q (o :: rest) a w := by
  obtain ⟨i0, hi0, hz0, hz1, hz2⟩ := info_parts int_info
  refine wpList_append_lies w hgd s x _ ho B 2 i0 _ 1 8 Try.underlying22 hi0 hz0 hz1 hz2 rfl (by omega) v xs.length _ hs hown ⟨H, 0, none⟩ 1 1 [.int .i64 y] hx rfl
    (World.news_of_block (cs := #[.int .i64 y]) hb) (by simp [Value.oneCell']) (by omega) (by unfold maxLen; omega) (by omega) hB (H + 1) hH ?_
  intro g cap w' h2 h3 h4 h5
  refine h g cap w' ⟨?_, h3, h4, h5⟩
  unfold Ow
  simpa using h2
end

section
variable {w w' : World} {B H g cap : Nat} {v : Value} {xs : List Int} {y : Int}
theorem Pushed.own (h : Pushed w B v xs y H g cap w') : Ow w' B (.slice (some ⟨g, 0, none⟩) (xs.length + 1) cap) (xs ++ [y]) := h.1
/-- A block that is no slice of int64 is as it was. -/
theorem Pushed.blk (h : Pushed w B v xs y H g cap w') (ho : Ow w B v xs) {b : Nat} {t : TypeId} {cs : Array Value} (hb : Blk w b t cs) (hne : t ≠ 2) : Blk w' b t cs :=
  hb.grown h.2.1 (ho.blk_ne hb hne)
/-- Another row that lies apart is as it was. -/
theorem Pushed.far (h : Pushed w B v xs y H g cap w') {B' : Nat} {v' : Value} {ys : List Int} (ho : Ow w B' v' ys) (ha : Apart v' v) : Ow w' B' v' ys := ho.far h.2.1 ha
theorem Pushed.apart (h : Pushed w B v xs y H g cap w') {v' : Value} {n : Nat} (ho : ∀ b, v'.ownBlock = some b → b ≠ H + 1) (ha : Apart v' v) : Apart v' (.slice (some ⟨g, 0, none⟩) n cap) := by
  intro b hb e
  have e' : g = b := by simpa [Value.ownBlock] using e
  subst e'
  rcases h.2.2.1 with h4 | h4
  · exact ha _ hb h4
  · exact ho _ hb h4
theorem Pushed.below (h : Pushed w B v xs y H g cap w') (ho : Ow w B v xs) (hB : B ≤ w.heap.size) : Below B w w' :=
  (Below.refl _ _).grown h.2.1 hB (fun k hk => (ho.lt k hk).1)
end
end Go.Proofs.Ytneflhachjlmkaa
