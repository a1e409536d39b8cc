
/- The walks of the small functions of package laws on metrics. The laws' own helpers on metrics: szInt64S, szMetric, toMetric. A metric under construction in a local struct: what the loops keep, and the step 'm.Values = append(m.Values, y)'. What toMetric makes is its own; what marking leaves alone. -/
import Derived.Test.YtonehmjoolflfaaGreatDoorBa
import Derived.WalkLawsBesides
namespace Go.Proofs.YtonehmjoolflfaaGreatDoor
open Go Go.RowKit
set_option linter.unusedSimpArgs false
set_option linter.unusedVariables false

/-- What heldMetric returns. -/
def heldM (k : Int) (os vs : List Int) : Int := if heldI k os < 0 then -1 else if heldI (heldI k os) vs < 0 then -1 else heldI (heldI k os) vs
theorem heldM_1 {k : Int} {os vs : List Int} (h : heldI k os < 0) : heldM k os vs = -1 := by unfold heldM; rw [if_pos h]
theorem heldM_2 {k : Int} {os vs : List Int} (h : 0 ≤ heldI k os) (h2 : heldI (heldI k os) vs < 0) : heldM k os vs = -1 := by unfold heldM; rw [if_neg (by omega), if_pos h2]
theorem heldM_3 {k : Int} {os vs : List Int} (h : 0 ≤ heldI k os) (h2 : 0 ≤ heldI (heldI k os) vs) : heldM k os vs = heldI (heldI k os) vs := by unfold heldM; rw [if_neg (by omega), if_neg (by omega)]
theorem heldI_le (xs : List Int) : ∀ k : Int, 0 ≤ k → heldI k xs ≤ k + xs.length := by
  induction xs with
  | nil => intro k _; simp [heldI]
  | cons x xs ih =>
    intro k hk
    unfold heldI
    split
    · have := ih (k + 1) (by omega); simp at this ⊢; omega
    · simp; omega
/-- The metric's two slices, which held os and vs, now hold k, k + 1, ..; whatever else lay before lies as it lay. -/
def MrkM (w : World) (B : Nat) (v1 v2 : Value) (os vs : List Int) (k : Int) (e : Ending) (w' : World) : Prop :=
  e = .returned (.int .i64 (k + os.length + vs.length)) ∧ Ow w' B v1 (marks k os.length) ∧ Ow w' B v2 (marks (k + os.length) vs.length) ∧
  w'.os = w.os ∧ w'.tape = w.tape ∧ w'.output = w.output ∧ w.heap.size ≤ w'.heap.size ∧ (∀ b, b < w.heap.size → v1.ownBlock ≠ some b → v2.ownBlock ≠ some b → w'.heap[b]? = w.heap[b]?)
section
variable {w w' : World} {B : Nat} {v1 v2 : Value} {os vs : List Int} {k : Int} {e : Ending}
theorem marks_rng (q : Int) (n : Nat) (h0 : 0 ≤ q) (h1 : q ≤ 1000000000) (hn : n ≤ 1073741824) : ∀ x ∈ marks q n, i64ok x := by
  intro x hx
  simp only [marks, List.mem_map, List.mem_range] at hx
  obtain ⟨j, hj, rfl⟩ := hx
  exact ⟨by omega, by omega⟩
theorem MrkM.keep (h : MrkM w B v1 v2 os vs k e w') {C : Nat} (hC : C ≤ B) (hw : C ≤ w.heap.size) (h1 : Ow w B v1 os) (h2 : Ow w B v2 vs) : Below C w w' :=
  ⟨h.2.2.2.1, h.2.2.2.2.1, h.2.2.2.2.2.1, h.2.2.2.2.2.2.1, fun b hb => h.2.2.2.2.2.2.2 b (by omega) (fun e => by have := h1.lt _ e; omega) (fun e => by have := h2.lt _ e; omega)⟩
theorem MrkM.blk (h : MrkM w B v1 v2 os vs k e w') {g : Nat} {t : TypeId} {cs : Array Value} (hb : Blk w g t cs) (hne : t ≠ 2) (h1 : Ow w B v1 os) (h2 : Ow w B v2 vs) : Blk w' g t cs :=
  (h.2.2.2.2.2.2.2 g hb.lt (h1.blk_ne hb hne) (h2.blk_ne hb hne)).trans hb
end
/-- What is left when n more have come. -/
def szI (l : Int) (n : Nat) : Int := if l - n < 0 then -1 else l - n
theorem szI_pos {l : Int} {n : Nat} (h : 0 ≤ szI l n) : szI l n = l - n ∧ (n : Int) ≤ l := by
  unfold szI at *
  split at h
  · omega
  · rename_i h2; rw [if_neg h2]; omega
def szM (l : Int) (n m : Nat) : Int := if szI l n < 0 then -1 else if szI (szI l n) m < 0 then -1 else szI (szI l n) m
theorem szM_pos {l : Int} {n m : Nat} (h : 0 ≤ szM l n m) : szM l n m = l - n - m ∧ (n : Int) + m ≤ l := by
  unfold szM at *
  split at h
  · omega
  · rename_i h1
    split at h
    · omega
    · rename_i h2
      rw [if_neg h1, if_neg h2]
      have a := szI_pos (l := l) (n := n) (by omega)
      have b := szI_pos (l := szI l n) (n := m) (by omega)
      omega
/-- A metric of its own that reads as these lists. -/
def MkS (w : World) (os : List Int) (D : Int) (vs : List Int) (e : Ending) (w' : World) : Prop :=
  ∃ A1 c1 A2 c2, e = .returned (.agg #[.slice A1 os.length c1, .int .i64 D, .slice A2 vs.length c2]) ∧ Sl w' w'.heap.size A1 os.length c1 os ∧ Sl w' w'.heap.size A2 vs.length c2 vs ∧ Below w.heap.size w w'
/-- The struct in block g holds the orders' slice, the modulus and the values so far; the result's slot (block r) is still zero; B: the heap's size when the call began. -/
structure MetIn (w : World) (B r g : Nat) (vo : Value) (os : List Int) (q : Int) (vv : Value) (xs : List Int) (wr : World) : Prop where
  res : Blk wr r 26 #[.slice none 0 0, .int .i64 0, .slice none 0 0]
  ords : Ow wr B vo os
  out : Blk wr g 26 #[vo, .int .i64 q, vv]
  vals : Ow wr B vv xs
  apart : Apart vo vv
  below : Below B w wr

section
variable {w wr : World} {B r g : Nat} {vo vv : Value} {os xs : List Int} {q : Int}
theorem MetIn.drew (h : MetIn w B r g vo os q vv xs wr) : MetIn w B r g vo os q vv xs wr.drew := ⟨h.res, h.ords, h.out, h.vals, h.apart, h.below.drew⟩
theorem MetIn.drewN (h : MetIn w B r g vo os q vv xs wr) (n : Nat) : MetIn w B r g vo os q vv xs (wr.drewN n) := ⟨h.res, h.ords, h.out, h.vals, h.apart, below_drewN h.below n⟩
theorem MetIn.alloc (h : MetIn w B r g vo os q vv xs wr) (hB : B ≤ wr.heap.size) (o : Obj) : MetIn w B r g vo os q vv xs (wr.alloc o) :=
  ⟨h.res.alloc o, h.ords.alloc o, h.out.alloc o, h.vals.alloc o, h.apart, h.below.alloc hB o⟩
theorem MetIn.all (h : MetIn w B r g vo os q vv xs wr) {w1 : World} (hb : Below wr.heap.size wr w1) (hB : B ≤ wr.heap.size) : MetIn w B r g vo os q vv xs w1 :=
  ⟨h.res.all hb, h.ords.below hb, h.out.all hb, h.vals.below hb, h.apart, h.below.trans (hb.mono hB)⟩
/-- What the region reads. -/
theorem MetIn.reads (h : MetIn w B r g vo os q vv xs wr) : wr.cell? ⟨g, 0, none⟩ = some vo ∧ wr.cell? ⟨g, 1, none⟩ = some (.int .i64 q) ∧ wr.cell? ⟨g, 2, none⟩ = some vv :=
  ⟨h.out.cell 0, h.out.cell 1, h.out.cell 2⟩
/-- Behind the append: the struct still holds the old slice. -/
theorem MetIn.pushed (h : MetIn w B r g vo os q vv xs wr) {y : Int} {H g' cap : Nat} {w2 : World} (hP : Pushed wr B vv xs y H g' cap w2) : Blk w2 g 26 #[vo, .int .i64 q, vv] :=
  hP.blk h.vals h.out (by decide)
/-- The whole step: the append, and the store into the field. -/
theorem MetIn.step (h : MetIn w B r g vo os q vv xs wr) {y : Int} {H g' cap : Nat} {w2 : World} (hP : Pushed wr B vv xs y H g' cap w2) (hB : B ≤ wr.heap.size) (hr : r ≠ g) (hg : B ≤ g) (ho : ∀ b, vo.ownBlock = some b → b ≠ H + 1) :
    MetIn w B r g vo os q (.slice (some ⟨g', 0, none⟩) (xs.length + 1) cap) (xs ++ [y]) (w2.setCell ⟨g, 2, none⟩ (.slice (some ⟨g', 0, none⟩) (xs.length + 1) cap)) := by
  have o2 := h.pushed hP
  refine ⟨(hP.blk h.vals h.res (by decide)).far hr _, (hP.far h.ords h.apart).setCell o2 (by decide) _ _, o2.store 2 _, hP.own.setCell o2 (by decide) _ _, hP.apart ho h.apart, ?_⟩
  exact (h.below.trans (hP.below h.vals hB)).setCell hg _
/-- Orders that lie below the element's block. -/
theorem MetIn.ordsNe (h : MetIn w B r g vo os q vv xs wr) {H : Nat} (hH : wr.heap.size ≤ H + 1) : ∀ b, vo.ownBlock = some b → b ≠ H + 1 := fun b hb => by
  have := h.ords.lt b hb; omega
end

theorem MetIn.weak {w W wr : World} {B B' r g : Nat} {vo vv : Value} {os xs : List Int} {q : Int} (h : MetIn W B r g vo os q vv xs wr) (hb : Below B' w W) (hB : B' ≤ B) : MetIn w B' r g vo os q vv xs wr :=
  ⟨h.res, h.ords.less hB, h.out, h.vals.less hB, h.apart, hb.trans (h.below.mono hB)⟩
/-- A block that has just been made. -/
theorem be_alloc {W w : World} (h : Below W.heap.size W w) (t : TypeId) (cs : Array Value) : ∃ wa g, w.heap.size = g ∧ w.alloc (.cells cs t) = wa ∧ Below W.heap.size W wa ∧ Below w.heap.size w wa ∧ Blk wa g t cs ∧ W.heap.size ≤ g :=
  ⟨_, _, rfl, rfl, h.alloc h.size _, (Below.refl _ _).alloc (Nat.le_refl _) _, Blk.new _ _ _, h.size⟩

/-- It returned a metric with slices of its own and a code. -/
def MkM (w : World) (os : List Int) (q : Int) (vs : List Int) (code : Int) (e : Ending) (w' : World) : Prop :=
  ∃ v1 v2, e = .returned (.tuple #[.agg #[v1, .int .i64 q, v2], .int .i64 code]) ∧ Ow w' w.heap.size v1 os ∧ Ow w' w.heap.size v2 vs ∧ Apart v1 v2 ∧ Below w.heap.size w w'
def MkM1 (w : World) (os : List Int) (q : Int) (vs : List Int) (e : Ending) (w' : World) : Prop :=
  ∃ v1 v2, e = .returned (.agg #[v1, .int .i64 q, v2]) ∧ Ow w' w.heap.size v1 os ∧ Ow w' w.heap.size v2 vs ∧ Apart v1 v2 ∧ Below w.heap.size w w'
/-- It returned the zero metric and a code. -/
def NoM (w : World) (code : Int) (e : Ending) (w' : World) : Prop :=
  e = .returned (.tuple #[.agg #[.slice none 0 0, .int .i64 0, .slice none 0 0], .int .i64 code]) ∧ Below w.heap.size w w'
theorem mkM_of_no {w : World} {code : Int} {e : Ending} {w' : World} (h : NoM w code e w') : MkM w [] 0 [] code e w' := by
  obtain ⟨rfl, hb⟩ := h
  exact ⟨_, _, rfl, Ow.nil _ _, Ow.nil _ _, fun b hb => by simp [Value.ownBlock] at hb, hb⟩
/-- What stands when the struct has been stored into the result's slot. -/
theorem MetIn.done {w wr : World} {r g : Nat} {vo vv : Value} {os xs : List Int} {q : Int} (h : MetIn w w.heap.size r g vo os q vv xs wr) (hr : w.heap.size ≤ r) {code : Int} :
    MkM w os q xs code (.returned (.tuple #[.agg #[vo, .int .i64 q, vv], .int .i64 code])) (put3 wr r vo (.int .i64 q) vv) :=
  ⟨_, _, rfl, put3_own h.res (by decide) h.ords, put3_own h.res (by decide) h.vals, h.apart, put3_below h.below hr⟩
theorem MetIn.done1 {w wr : World} {r g : Nat} {vo vv : Value} {os xs : List Int} {q : Int} (h : MetIn w w.heap.size r g vo os q vv xs wr) (hr : w.heap.size ≤ r) :
    MkM1 w os q xs (.returned (.agg #[vo, .int .i64 q, vv])) (put3 wr r vo (.int .i64 q) vv) :=
  ⟨_, _, rfl, put3_own h.res (by decide) h.ords, put3_own h.res (by decide) h.vals, h.apart, put3_below h.below hr⟩

theorem Ow.block {w w' : World} {B : Nat} {v : Value} {xs : List Int} (h : Ow w B v xs) (hb : ∀ b, v.ownBlock = some b → w'.heap[b]? = w.heap[b]?) : Ow w' B v xs := by
  obtain ⟨h1, h2⟩ := h
  refine ⟨h1, ?_⟩
  rcases h2 with h2 | ⟨g, cap, cur, rfl, hg, hh, h3⟩
  · exact .inl h2
  · exact .inr ⟨g, cap, cur, rfl, hg, (hb g rfl).trans hh, h3⟩
theorem MrkM.ow {w w' : World} {B B' : Nat} {v1 v2 v : Value} {os vs xs : List Int} {k : Int} {e : Ending} (h : MrkM w B v1 v2 os vs k e w') (ho : Ow w B' v xs) (h1 : Apart v v1) (h2 : Apart v v2) : Ow w' B' v xs :=
  ho.block fun b hb => h.2.2.2.2.2.2.2 b (ho.lt b hb).2 (h1 b hb) (h2 b hb)
/-- What lies from a later block on lies apart. -/
theorem Ow.apart {w w' : World} {B B' : Nat} {v v' : Value} {xs ys : List Int} (h : Ow w B v xs) (h' : Ow w' B' v' ys) (hB : w.heap.size ≤ B') : Apart v v' := fun b hb e => by
  have h1 := h.lt b hb
  have h2 := h'.lt b e
  omega
theorem Mrk.keep {w w' : World} {B C : Nat} {v : Value} {xs : List Int} {k : Int} {e : Ending} (h : Mrk w B v xs k e w') (ho : Ow w B v xs) (hC : C ≤ B) (hw : C ≤ w.heap.size) : Below C w w' :=
  ⟨h.2.2.os, h.2.2.tape, h.2.2.output, h.2.2.size, fun b hb => h.2.2.block b (by omega) (fun e => by have := (ho.lt b e.symm).1; omega)⟩

/-- It returned a slice of its own that holds xs, and a code; what lay before lies as it lay. -/
def MkC (w : World) (xs : List Int) (code : Int) (e : Ending) (w' : World) : Prop := ∃ v, e = .returned (.tuple #[v, .int .i64 code]) ∧ Ow w' w.heap.size v xs ∧ Below w.heap.size w w'
theorem Ow.two {w w' : World} {B : Nat} {v : Value} {xs ys : List Int} {A : Option Addr} {n c : Nat} (h : Ow w B v xs) (e : v = .slice A n c) (h' : Ow w' B v ys) (hl : ys.length = n) (hr : ∀ x ∈ ys, i64ok x) : Sl w' w'.heap.size A n c ys := by
  subst hl
  obtain ⟨A2, c2, e2, s2⟩ := h'.sl hr
  rw [e] at e2
  cases e2
  exact s2
theorem Ow.here {w : World} {B : Nat} {xs : List Int} {A : Option Addr} {n c : Nat} (h : Ow w B (.slice A n c) xs) (hl : xs.length = n) (hr : ∀ x ∈ xs, i64ok x) : Sl w w.heap.size A n c xs := h.two rfl h hl hr
end Go.Proofs.YtonehmjoolflfaaGreatDoor
