
/- A metric under construction in a local struct: what the loops keep, and the step 'm.Values = append(m.Values, y)'. -/
import Derived.Test.YtneflhachjlmkaaW1
import Derived.Test.YtneflhachjlmkaaOrd
namespace Go.Proofs.Ytneflhachjlmkaa
open Go Go.RowKit

/-- The struct in block g holds the orders' slice, the modulus and the values so far; the result's slot (block r) is still zero; B: the heap's size when the call began. -/
structure MetIn (w : World) (B r g : Nat) (vo : Value) (os : List Int) (q : Int) (vv : Value) (xs : List Int) (wr : World) : Prop where
  res : Blk wr r 28 #[.slice none 0 0, .int .i64 0, .slice none 0 0]
  ords : Ow wr B vo os
  out : Blk wr g 28 #[vo, .int .i64 q, vv]
  vals : Ow wr B vv xs
  apart : Apart vo vv
  below : Below B w wr

section
variable {w wr : World} {B r g : Nat} {vo vv : Value} {os xs : List Int} {q : Int}
theorem MetIn.drew (h : MetIn w B r g vo os q vv xs wr) : MetIn w B r g vo os q vv xs wr.drew := ⟨h.res, h.ords, h.out, h.vals, h.apart, h.below.drew⟩
theorem MetIn.drewN (h : MetIn w B r g vo os q vv xs wr) (n : Nat) : MetIn w B r g vo os q vv xs (wr.drewN n) := ⟨h.res, h.ords, h.out, h.vals, h.apart, below_drewN h.below n⟩
theorem MetIn.alloc (h : MetIn w B r g vo os q vv xs wr) (hB : B ≤ wr.heap.size) (o : Obj) : MetIn w B r g vo os q vv xs (wr.alloc o) :=
  ⟨h.res.alloc o, h.ords.alloc o, h.out.alloc o, h.vals.alloc o, h.apart, h.below.alloc hB o⟩
theorem MetIn.all (h : MetIn w B r g vo os q vv xs wr) {w1 : World} (hb : Below wr.heap.size wr w1) (hB : B ≤ wr.heap.size) : MetIn w B r g vo os q vv xs w1 :=
  ⟨h.res.all hb, h.ords.below hb, h.out.all hb, h.vals.below hb, h.apart, h.below.trans (hb.mono hB)⟩
/-- What the region reads. -/
theorem MetIn.reads (h : MetIn w B r g vo os q vv xs wr) : wr.cell? ⟨g, 0, none⟩ = some vo ∧ wr.cell? ⟨g, 1, none⟩ = some (.int .i64 q) ∧ wr.cell? ⟨g, 2, none⟩ = some vv :=
  ⟨h.out.cell 0, h.out.cell 1, h.out.cell 2⟩
/-- Behind the append: the struct still holds the old slice. -/
theorem MetIn.pushed (h : MetIn w B r g vo os q vv xs wr) {y : Int} {H g' cap : Nat} {w2 : World} (hP : Pushed wr B vv xs y H g' cap w2) : Blk w2 g 28 #[vo, .int .i64 q, vv] :=
  hP.blk h.vals h.out (by decide)
/-- The whole step: the append, and the store into the field. -/
theorem MetIn.step (h : MetIn w B r g vo os q vv xs wr) {y : Int} {H g' cap : Nat} {w2 : World} (hP : Pushed wr B vv xs y H g' cap w2) (hB : B ≤ wr.heap.size) (hr : r ≠ g) (hg : B ≤ g) (ho : ∀ b, vo.ownBlock = some b → b ≠ H + 1) :
    MetIn w B r g vo os q (.slice (some ⟨g', 0, none⟩) (xs.length + 1) cap) (xs ++ [y]) (w2.setCell ⟨g, 2, none⟩ (.slice (some ⟨g', 0, none⟩) (xs.length + 1) cap)) := by
  have o2 := h.pushed hP
  refine ⟨(hP.blk h.vals h.res (by decide)).far hr _, (hP.far h.ords h.apart).setCell o2 (by decide) _ _, o2.store 2 _, hP.own.setCell o2 (by decide) _ _, hP.apart ho h.apart, ?_⟩
  exact (h.below.trans (hP.below h.vals hB)).setCell hg _
/-- Orders that lie below the element's block. -/
theorem MetIn.ordsNe (h : MetIn w B r g vo os q vv xs wr) {H : Nat} (hH : wr.heap.size ≤ H + 1) : ∀ b, vo.ownBlock = some b → b ≠ H + 1 := fun b hb => by
  have := h.ords.lt b hb; omega
end

theorem MetIn.weak {w W wr : World} {B B' r g : Nat} {vo vv : Value} {os xs : List Int} {q : Int} (h : MetIn W B r g vo os q vv xs wr) (hb : Below B' w W) (hB : B' ≤ B) : MetIn w B' r g vo os q vv xs wr :=
  ⟨h.res, h.ords.less hB, h.out, h.vals.less hB, h.apart, hb.trans (h.below.mono hB)⟩
/-- A block that has just been made. -/
theorem be_alloc {W w : World} (h : Below W.heap.size W w) (t : TypeId) (cs : Array Value) : ∃ wa g, w.heap.size = g ∧ w.alloc (.cells cs t) = wa ∧ Below W.heap.size W wa ∧ Below w.heap.size w wa ∧ Blk wa g t cs ∧ W.heap.size ≤ g :=
  ⟨_, _, rfl, rfl, h.alloc h.size _, (Below.refl _ _).alloc (Nat.le_refl _) _, Blk.new _ _ _, h.size⟩

/-- It returned a metric with slices of its own and a code. -/
def MkM (w : World) (os : List Int) (q : Int) (vs : List Int) (code : Int) (e : Ending) (w' : World) : Prop :=
  ∃ v1 v2, e = .returned (.tuple #[.agg #[v1, .int .i64 q, v2], .int .i64 code]) ∧ Ow w' w.heap.size v1 os ∧ Ow w' w.heap.size v2 vs ∧ Apart v1 v2 ∧ Below w.heap.size w w'
def MkM1 (w : World) (os : List Int) (q : Int) (vs : List Int) (e : Ending) (w' : World) : Prop :=
  ∃ v1 v2, e = .returned (.agg #[v1, .int .i64 q, v2]) ∧ Ow w' w.heap.size v1 os ∧ Ow w' w.heap.size v2 vs ∧ Apart v1 v2 ∧ Below w.heap.size w w'
/-- It returned the zero metric and a code. -/
def NoM (w : World) (code : Int) (e : Ending) (w' : World) : Prop :=
  e = .returned (.tuple #[.agg #[.slice none 0 0, .int .i64 0, .slice none 0 0], .int .i64 code]) ∧ Below w.heap.size w w'
theorem mkM_of_no {w : World} {code : Int} {e : Ending} {w' : World} (h : NoM w code e w') : MkM w [] 0 [] code e w' := by
  obtain ⟨rfl, hb⟩ := h
  exact ⟨_, _, rfl, Ow.nil _ _, Ow.nil _ _, fun b hb => by simp [Value.ownBlock] at hb, hb⟩
/-- What stands when the struct has been stored into the result's slot. -/
theorem MetIn.done {w wr : World} {r g : Nat} {vo vv : Value} {os xs : List Int} {q : Int} (h : MetIn w w.heap.size r g vo os q vv xs wr) (hr : w.heap.size ≤ r) {code : Int} :
    MkM w os q xs code (.returned (.tuple #[.agg #[vo, .int .i64 q, vv], .int .i64 code])) (put3 wr r vo (.int .i64 q) vv) :=
  ⟨_, _, rfl, put3_own h.res (by decide) h.ords, put3_own h.res (by decide) h.vals, h.apart, put3_below h.below hr⟩
theorem MetIn.done1 {w wr : World} {r g : Nat} {vo vv : Value} {os xs : List Int} {q : Int} (h : MetIn w w.heap.size r g vo os q vv xs wr) (hr : w.heap.size ≤ r) :
    MkM1 w os q xs (.returned (.agg #[vo, .int .i64 q, vv])) (put3 wr r vo (.int .i64 q) vv) :=
  ⟨_, _, rfl, put3_own h.res (by decide) h.ords, put3_own h.res (by decide) h.vals, h.apart, put3_below h.below hr⟩
end Go.Proofs.Ytneflhachjlmkaa
