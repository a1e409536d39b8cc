
/- The walk of the closure extend of eachIsometry. -/
import Derived.Test.YtkekgipeagchcaaIM7
namespace Go.Proofs.Ytkekgipeagchcaa
open Go Go.RowKit Grp
set_option linter.unusedSimpArgs false
set_option linter.unusedVariables false
set_option maxRecDepth 100000
/-- Where the variables of a call of eachIsometry lie. -/
structure Cf where
  T : Two
  w : World
  B0 : Nat
  L : Nat
  N : Nat
  A : Option Addr
  c : Nat
  B : Option Addr
  k : Nat
  A2 : Option Addr
  n2 : Nat
  c2 : Nat
  B2 : Option Addr
  k2 : Nat
  Ao : Option Addr
  co : Nat
  a0 : Nat
  a1 : Nat
  a2 : Nat
  a3 : Nat
  a4 : Nat
  a5 : Nat
  a6 : Nat
  a7 : Nat
  X : Nat
  fe : Nat
  stop : Bool
structure CfOk (C : Cf) : Prop where
  hT : TwoOk C.T
  hL : C.T.os.length = C.L
  hN : C.T.us.length = C.N
  h : Sl C.w C.B0 C.A C.L C.c C.T.os
  h' : Sl C.w C.B0 C.B C.N C.k C.T.vs
  g : Sl C.w C.B0 C.A2 C.n2 C.c2 C.T.ps
  g' : Sl C.w C.B0 C.B2 C.N C.k2 C.T.us
  hB : C.B0 ≤ C.X
  hX : C.X < C.w.heap.size
  w0 : C.w.heap.size ≤ C.a0
  w1 : C.w.heap.size ≤ C.a1
  w2 : C.w.heap.size ≤ C.a2
  w3 : C.w.heap.size ≤ C.a3
  w4 : C.w.heap.size ≤ C.a4
  w5 : C.w.heap.size ≤ C.a5
  w6 : C.w.heap.size ≤ C.a6
  w7 : C.w.heap.size ≤ C.a7
  n0 : C.a0 ≠ C.a3
  n1 : C.a1 ≠ C.a3
  n2 : C.a2 ≠ C.a3
  n4 : C.a4 ≠ C.a3
  n5 : C.a5 ≠ C.a3
  n6 : C.a6 ≠ C.a3
  n7 : C.a7 ≠ C.a3
/-- All lies in its place, the variable images holding the slice v. -/
structure ExI (C : Cf) (pre : List Int) (v : Value) (W : World) : Prop where
  b0 : Blk W C.a0 28 #[.slice C.A C.L C.c, .int .i64 C.T.D, .slice C.B C.N C.k]
  b1 : Blk W C.a1 28 #[.slice C.A2 C.n2 C.c2, .int .i64 C.T.E, .slice C.B2 C.N C.k2]
  b2 : Blk W C.a2 49 #[.func (.func C.fe) #[] #[.pointer (some ⟨C.X, 0, none⟩)]]
  b3 : Blk W C.a3 22 #[v]
  im : Ow W C.w.heap.size v pre
  b4 : Blk W C.a4 22 #[.slice C.Ao C.L C.co]
  ow : Ow W C.w.heap.size (.slice C.Ao C.L C.co) (genL C.T.os)
  ap : Apart (.slice C.Ao C.L C.co) v
  b5 : Blk W C.a5 67 #[.func (.func 55) #[] #[]]
  b6 : Blk W C.a6 66 #[.func (.func 56) #[] #[.pointer (some ⟨C.a0, 0, none⟩), .pointer (some ⟨C.a1, 0, none⟩), .pointer (some ⟨C.a3, 0, none⟩), .pointer (some ⟨C.a5, 0, none⟩)]]
  b7 : Blk W C.a7 66 #[.func (.func 59) #[] #[.pointer (some ⟨C.a3, 0, none⟩), .pointer (some ⟨C.a4, 0, none⟩), .pointer (some ⟨C.a6, 0, none⟩), .pointer (some ⟨C.a2, 0, none⟩), .pointer (some ⟨C.a1, 0, none⟩), .pointer (some ⟨C.a0, 0, none⟩), .pointer (some ⟨C.a5, 0, none⟩), .pointer (some ⟨C.a7, 0, none⟩)]]
  fr : Below C.B0 C.w W
section
variable {C : Cf} {pre : List Int} {v : Value} {W W' : World}
theorem ExI.wr (h : ExI C pre v W) (ok : CfOk C) (hw : Wr W W' (fun b => b = C.X)) : ExI C pre v W' := by
  have hX := ok.hX
  have := ok.w0; have := ok.w1; have := ok.w2; have := ok.w3; have := ok.w4; have := ok.w5; have := ok.w6; have := ok.w7
  have hB := ok.hB
  have hs := h.fr.size
  exact ⟨hw.blk h.b0 (by omega), hw.blk h.b1 (by omega), hw.blk h.b2 (by omega), hw.blk h.b3 (by omega), hw.own h.im (fun b hb => by have := h.im.lt b hb; omega), hw.blk h.b4 (by omega), hw.own h.ow (fun b hb => by have := h.ow.lt b hb; omega), h.ap,
    hw.blk h.b5 (by omega), hw.blk h.b6 (by omega), hw.blk h.b7 (by omega), h.fr.trans (hw.below (fun b hb => by omega) (by have := h.fr.size; omega))⟩
theorem ExI.below (h : ExI C pre v W) (ok : CfOk C) (hb : Below W.heap.size W W') : ExI C pre v W' := h.wr ok (Wr.of_below hb)
theorem ExI.sz (h : ExI C pre v W) : C.w.heap.size ≤ W.heap.size := h.fr.size
/-- One image more. -/
theorem ExI.push (h : ExI C pre v W) (ok : CfOk C) {y : Int} {g cap : Nat} {w8 : World} (hP : Pushed (W.alloc (.cells #[.int .i64 y] 2)) C.w.heap.size v pre y W.heap.size g cap w8) :
    ExI C (pre ++ [y]) (.slice (some ⟨g, 0, none⟩) (pre.length + 1) cap) (w8.setCell ⟨C.a3, 0, none⟩ (.slice (some ⟨g, 0, none⟩) (pre.length + 1) cap)) := by
  have ha := h.im.alloc (.cells #[.int .i64 y] 2)
  have b3 := hP.blk ha (h.b3.alloc _) (by decide)
  have hB := ok.hB; have hX := ok.hX; have hs := h.fr.size; have h3 := ok.w3
  refine ⟨(hP.blk ha (h.b0.alloc _) (by decide)).far ok.n0 _, (hP.blk ha (h.b1.alloc _) (by decide)).far ok.n1 _, (hP.blk ha (h.b2.alloc _) (by decide)).far ok.n2 _, b3.store 0 _, hP.own.setCell b3 (by decide) 0 _,
    (hP.blk ha (h.b4.alloc _) (by decide)).far ok.n4 _, (hP.far (h.ow.alloc _) h.ap).setCell b3 (by decide) 0 _, ?_,
    (hP.blk ha (h.b5.alloc _) (by decide)).far ok.n5 _, (hP.blk ha (h.b6.alloc _) (by decide)).far ok.n6 _, (hP.blk ha (h.b7.alloc _) (by decide)).far ok.n7 _, ?_⟩
  · exact hP.apart (n := pre.length + 1) (fun b hb => by have := h.ow.lt b hb; omega) h.ap
  · have h8 := hP.below ha (by simp; omega)
    exact ((h.fr.alloc (by omega) _).trans (h8.mono (by omega))).setCell (by show C.B0 ≤ C.a3; omega) _
theorem ExI.pushWr (h : ExI C pre v W) (ok : CfOk C) {y : Int} {g cap : Nat} {w8 : World} (hP : Pushed (W.alloc (.cells #[.int .i64 y] 2)) C.w.heap.size v pre y W.heap.size g cap w8) (u : Value) :
    Wr W (w8.setCell ⟨C.a3, 0, none⟩ u) (fun b => C.w.heap.size ≤ b) := by
  have ha := h.im.alloc (.cells #[.int .i64 y] 2)
  have h1 : Wr W (W.alloc (.cells #[.int .i64 y] 2)) (fun b => C.w.heap.size ≤ b) := Wr.of_below ((Below.refl _ _).alloc (Nat.le_refl _) _)
  have h2 : Wr (W.alloc (.cells #[.int .i64 y] 2)) w8 (fun b => C.w.heap.size ≤ b) := Wr.of_grown hP.2.1 (fun b hb => (ha.lt b hb).1)
  have h3 := h1.trans h2
  exact ⟨h3.os, h3.tape, h3.output, by simp [World.setCell]; exact h3.size, fun b hb hn => (Below.heap_setCell w8 ⟨C.a3, 0, none⟩ u b (fun e => hn (by rw [show b = C.a3 from e]; exact ok.w3))).trans (h3.block b hb hn)⟩
theorem Ow.cut {w : World} {B g n cap : Nat} {xs ys : List Int} (h : Ow w B (.slice (some ⟨g, 0, none⟩) n cap) (xs ++ ys)) : Ow w B (.slice (some ⟨g, 0, none⟩) xs.length cap) xs := by
  obtain ⟨h1, h2⟩ := h
  rcases h2 with ⟨h2, _⟩ | ⟨g', cap', cur, hv, hg, hh, hn, hm, hs, hx⟩
  · cases h2
  · cases hv
    rw [List.length_append] at hn hx
    refine ⟨by simp, .inr ⟨g, cap, cur, rfl, hg, hh, by omega, hm, hs, ?_⟩⟩
    have e : cur.toList.take (xs.length * 1) = (cur.toList.take ((xs.length + ys.length) * 1)).take (xs.length * 1) := by rw [List.take_take, Nat.min_eq_left (by omega)]
    rw [e, hx, List.map_append, List.take_append_of_le_length (by simp), List.take_of_length_le (by simp)]
/-- The last image taken away. -/
theorem ExI.cut {y : Int} {g cap : Nat} (h : ExI C (pre ++ [y]) (.slice (some ⟨g, 0, none⟩) (pre.length + 1) cap) W) (ok : CfOk C) :
    ExI C pre (.slice (some ⟨g, 0, none⟩) pre.length cap) (W.setCell ⟨C.a3, 0, none⟩ (.slice (some ⟨g, 0, none⟩) pre.length cap)) := by
  have hB := ok.hB; have hX := ok.hX; have h3 := ok.w3
  exact ⟨h.b0.far ok.n0 _, h.b1.far ok.n1 _, h.b2.far ok.n2 _, h.b3.store 0 _, h.im.cut.setCell h.b3 (by decide) 0 _, h.b4.far ok.n4 _, h.ow.setCell h.b3 (by decide) 0 _, h.ap, h.b5.far ok.n5 _, h.b6.far ok.n6 _, h.b7.far ok.n7 _,
    h.fr.setCell (by show C.B0 ≤ C.a3; omega) _⟩
theorem wr_set3 (ok : CfOk C) (u : Value) : Wr W (W.setCell ⟨C.a3, 0, none⟩ u) (fun b => C.w.heap.size ≤ b) :=
  ⟨rfl, rfl, rfl, by simp [World.setCell], fun b hb hn => Below.heap_setCell W ⟨C.a3, 0, none⟩ u b (fun e => hn (by rw [show b = C.a3 from e]; exact ok.w3))⟩
end
/-- What extend leaves. -/
def ExP (C : Cf) (Acc : World → List (List Int) → Prop) (Fin : World → List Int → Prop) (r : Nat) (pre : List Int) (acc : List (List Int)) (e : Ending) (W' : World) : Prop :=
  (e = .returned (.bool false) ∧ (∃ v, ExI C pre v W') ∧ Acc W' (acc ++ C.T.isos r pre) ∧ (C.stop = true → C.T.isos r pre = [])) ∨
  (C.stop = true ∧ ∃ x l, C.T.isos r pre = x :: l ∧ e = .returned (.bool true) ∧ Fin W' x ∧ Below C.B0 C.w W')
end Go.Proofs.Ytkekgipeagchcaa
