
/- The walk of l11Condense. -/
import Derived.Test.YtneflhachjlmkaaQN1
import Derived.Test.YtneflhachjlmkaaKQ
import Derived.Test.YtneflhachjlmkaaNa
import Derived.Test.YtneflhachjlmkaaBa
import Derived.Deep.DeepCutAuto
namespace Go.Proofs.Ytneflhachjlmkaa
open Go Go.RowKit Grp
set_option linter.unusedSimpArgs false
set_option linter.unusedVariables false
set_option maxRecDepth 100000
/-- What a metric condenses to. -/
def ldO (os : List Int) (D : Int) (vs xs : List Int) : List Int := ldL os xs (ortL os D vs xs vs.length) (ortL os D vs xs vs.length).length
def condQ (os : List Int) (D : Int) (vs xs : List Int) : quotient_T := (ldO os D vs xs, ctab os xs (ldO os D vs xs), D, (ldO os D vs xs).map (Vl vs))
/-- Leaders and values under construction in the struct of block g. -/
structure QIn (w : World) (g : Nat) (vO vL vV : Value) (O L V : List Int) (q : Int) (wr : World) : Prop where
  orth : Ow wr w.heap.size vO O
  out : Blk wr g 40 #[vL, .slice none 0 0, .int .i64 q, vV]
  lds : Ow wr w.heap.size vL L
  vals : Ow wr w.heap.size vV V
  aO : Apart vO vL
  aV : Apart vO vV
  aL : Apart vL vV
  below : Below w.heap.size w wr
section
variable {w wr w1 w2 : World} {g : Nat} {vO vL vV : Value} {O L V : List Int} {q : Int}
theorem QIn.all (h : QIn w g vO vL vV O L V q wr) (hb : Below wr.heap.size wr w1) : QIn w g vO vL vV O L V q w1 :=
  ⟨h.orth.below hb, h.out.all hb, h.lds.below hb, h.vals.below hb, h.aO, h.aV, h.aL, h.below.trans (hb.mono h.below.size)⟩
theorem QIn.stepL (h : QIn w g vO vL vV O L V q wr) {wa : World} (hba : Below wr.heap.size wr wa) {y : Int} {H g' cap : Nat} (hH : wr.heap.size ≤ H) (hP : Pushed wa w.heap.size vL L y H g' cap w2) (hg : w.heap.size ≤ g) :
    QIn w g vO (.slice (some ⟨g', 0, none⟩) (L.length + 1) cap) vV O (L ++ [y]) V q (w2.setCell ⟨g, 0, none⟩ (.slice (some ⟨g', 0, none⟩) (L.length + 1) cap)) := by
  have h2 := h.all hba
  have hO : ∀ b, vO.ownBlock = some b → b ≠ H + 1 := fun b hb => by have := h.orth.lt b hb; omega
  have hV : ∀ b, vV.ownBlock = some b → b ≠ H + 1 := fun b hb => by have := h.vals.lt b hb; omega
  have o2 : Blk w2 g 40 #[vL, .slice none 0 0, .int .i64 q, vV] := hP.blk h2.lds h2.out (by decide)
  refine ⟨(hP.far h2.orth h2.aO).setCell o2 (by decide) _ _, o2.store 0 _, hP.own.setCell o2 (by decide) _ _, (hP.far h2.vals h2.aL.symm).setCell o2 (by decide) _ _, hP.apart hO h2.aO, h2.aV, (hP.apart hV h2.aL.symm).symm, ?_⟩
  exact (h2.below.trans (hP.below h2.lds h2.below.size)).setCell hg _
theorem QIn.stepV (h : QIn w g vO vL vV O L V q wr) {wa : World} (hba : Below wr.heap.size wr wa) {y : Int} {H g' cap : Nat} (hH : wr.heap.size ≤ H) (hP : Pushed wa w.heap.size vV V y H g' cap w2) (hg : w.heap.size ≤ g) :
    QIn w g vO vL (.slice (some ⟨g', 0, none⟩) (V.length + 1) cap) O L (V ++ [y]) q (w2.setCell ⟨g, 3, none⟩ (.slice (some ⟨g', 0, none⟩) (V.length + 1) cap)) := by
  have h2 := h.all hba
  have hO : ∀ b, vO.ownBlock = some b → b ≠ H + 1 := fun b hb => by have := h.orth.lt b hb; omega
  have hL : ∀ b, vL.ownBlock = some b → b ≠ H + 1 := fun b hb => by have := h.lds.lt b hb; omega
  have o2 : Blk w2 g 40 #[vL, .slice none 0 0, .int .i64 q, vV] := hP.blk h2.vals h2.out (by decide)
  refine ⟨(hP.far h2.orth h2.aV).setCell o2 (by decide) _ _, o2.store 3 _, (hP.far h2.lds h2.aL).setCell o2 (by decide) _ _, hP.own.setCell o2 (by decide) _ _, h2.aO, hP.apart hO h2.aV, hP.apart hL h2.aL, ?_⟩
  exact (h2.below.trans (hP.below h2.vals h2.below.size)).setCell hg _
end
/-- The table under construction in the struct of block g, behind the world W. -/
structure QTb (W : World) (g : Nat) (vL vV : Value) (q : Int) (vT : Value) (T : List (List Int)) (wr : World) : Prop where
  out : Blk wr g 40 #[vL, vT, .int .i64 q, vV]
  tab : Grow E1 22 W.heap.size wr vT T
  kept : Wr W wr (fun b => b = g)
  lt : g < W.heap.size
section
variable {W wr w1 w6 w7 : World} {g : Nat} {vL vV vT v2 : Value} {q : Int} {T T' : List (List Int)}
theorem QTb.bel (h : QTb W g vL vV q vT T wr) (hb : Below wr.heap.size wr w1) : QTb W g vL vV q vT T w1 :=
  ⟨h.out.all hb, h.tab.bel kp1 hb, h.kept.trans (Wr.of_below hb), h.lt⟩
theorem QTb.next (h : QTb W g vL vV q vT T w6) (hB : Below W.heap.size w6 w7) (hG : Grow E1 22 W.heap.size w7 v2 T') : QTb W g vL vV q v2 T' (w7.setCell ⟨g, 1, none⟩ v2) := by
  have hlt := h.lt
  have out' : Blk w7 g 40 #[vL, vT, .int .i64 q, vV] := h.out.below hB hlt
  have hw : Wr w7 (w7.setCell ⟨g, 1, none⟩ v2) (fun b => b = g) := ⟨rfl, rfl, rfl, by simp [World.setCell], fun b _ hn => Below.heap_setCell _ _ _ _ (fun e => hn (show b = g from e.symm ▸ rfl))⟩
  have h67 : Wr w6 w7 (fun b => W.heap.size ≤ b) := ⟨hB.os, hB.tape, hB.output, hB.size, fun b _ hn => hB.block b (by omega)⟩
  refine ⟨out'.store 1 _, hG.wr kp1 hw (fun b hb' => by right; omega), ?_, hlt⟩
  have hk := h.kept
  refine ⟨hw.os.trans (hB.os.trans hk.os), hw.tape.trans (hB.tape.trans hk.tape), hw.output.trans (hB.output.trans hk.output), Nat.le_trans hk.size (Nat.le_trans hB.size hw.size), fun b hb hn => ?_⟩
  rw [hw.block b (Nat.lt_of_lt_of_le hb (Nat.le_trans hk.size hB.size)) hn, hB.block b hb, hk.block b hb hn]
theorem QTb.cell (h : QTb W g vL vV q vT T wr) {p : Addr} (hp : p.block < W.heap.size) (hn : p.block ≠ g) : wr.cell? p = W.cell? p := by
  have := h.kept.block p.block hp hn
  simp [World.cell?, this]
end
def put4 (w : World) (g : Nat) (x y z u : Value) : World := (put3 w g x y z).setCell ⟨g, 3, none⟩ u
section
variable {w : World} {g : Nat} {t : TypeId} {a b c d x y z u : Value}
theorem put4_blk (h : Blk w g t #[a, b, c, d]) : Blk (put4 w g x y z u) g t #[x, y, z, u] := (((h.store 0 x).store 1 y).store 2 z).store 3 u
theorem put4_below {B : Nat} {w0 : World} (h : Below B w0 w) (hB : B ≤ g) : Below B w0 (put4 w g x y z u) := (put3_below h hB).setCell hB u
theorem put4_size : (put4 w g x y z u).heap.size = w.heap.size := by simp [put4, put3, World.setCell]
theorem put4_wr : Wr w (put4 w g x y z u) (fun b => b = g) := ⟨rfl, rfl, rfl, by rw [put4_size]; exact Nat.le_refl _, fun b _ hn => by
  unfold put4 put3
  have hne : ∀ i, b ≠ (⟨g, i, none⟩ : Addr).block := fun i e => hn e
  rw [Below.heap_setCell _ ⟨g, 3, none⟩ _ b (hne 3), Below.heap_setCell _ ⟨g, 2, none⟩ _ b (hne 2), Below.heap_setCell _ ⟨g, 1, none⟩ _ b (hne 1), Below.heap_setCell _ ⟨g, 0, none⟩ _ b (hne 0)]⟩
end
/-- The end: the struct is stored into the result's slot r. -/
theorem QTb.fin {w0 W wr : World} {B r g : Nat} {vL vV vT : Value} {L V : List Int} {q : Int} {T : List (List Int)} (h : QTb W g vL vV q vT T wr) (hb : Below w0.heap.size w0 W) (hr0 : w0.heap.size ≤ r) (hrW : r < B) (hB : B ≤ W.heap.size) (hB0 : w0.heap.size ≤ B) (hg0 : w0.heap.size ≤ g)
    (hL : Ow W B vL L) (hV : Ow W B vV V) (ha : Apart vL vV) (hLr : ∀ x ∈ L, i64ok x) (hVr : ∀ x ∈ V, i64ok x) (hLg : vL.ownBlock ≠ some g) (hVg : vV.ownBlock ≠ some g) :
    ∃ v, (.returned (.agg #[vL, vT, .int .i64 q, vV]) : Ending) = .returned v ∧ quotient_E (put4 wr r vL vT (.int .i64 q) vV) v (L, T, q, V) (fun b => w0.heap.size ≤ b ∧ b < (put4 wr r vL vT (.int .i64 q) vV).heap.size) ∧ Below w0.heap.size w0 (put4 wr r vL vT (.int .i64 q) vV) := by
  have hw : Wr wr (put4 wr r vL vT (.int .i64 q) vV) (fun b => b = r) := put4_wr
  have hsz : (put4 wr r vL vT (.int .i64 q) vV).heap.size = wr.heap.size := put4_size
  have hks := h.kept.size
  have hL1 : Ow wr B vL L := h.kept.own hL (fun b hb e => hLg (by rw [hb, e]))
  have hV1 : Ow wr B vV V := h.kept.own hV (fun b hb e => hVg (by rw [hb, e]))
  have hL2 := hw.own hL1 (fun b hb e => by have := (hL.lt b hb).1; omega)
  have hV2 := hw.own hV1 (fun b hb e => by have := (hV.lt b hb).1; omega)
  have hT : E2 wr vT T (fun b => W.heap.size ≤ b ∧ b < wr.heap.size) := h.tab.toL
  refine ⟨_, rfl, ⟨vL, vT, vV, fun b => vL.ownBlock = some b, fun b => W.heap.size ≤ b ∧ b < wr.heap.size, fun b => vV.ownBlock = some b, rfl, ⟨hL2.less (Nat.zero_le _), hLr, fun _ h => h, fun b hb => (hL2.lt b hb).2⟩,
    kp2 _ _ _ _ _ hT (fun b hb => hw.block b hb.2 (by have := hb.1; omega)) hw.size, ⟨hV2.less (Nat.zero_le _), hVr, fun _ h => h, fun b hb => (hV2.lt b hb).2⟩, fun b h1 h2 => ?_, fun b h1 h2 => ha b h1 h2, fun b h1 h2 => ?_, fun b hb => ?_, fun b hb => ?_, fun b hb => ?_, fun b hb => hb.2⟩, ?_⟩
  · have := (hL.lt b h1).2; have := h2.1; omega
  · have := (hV.lt b h2).2; have := h1.1; omega
  · have := hL2.lt b hb; omega
  · have := hb.1; have := hb.2; omega
  · have := hV2.lt b hb; omega
  · refine put4_below ?_ hr0
    exact hb.trans (h.kept.below (fun b hb => by omega) (by omega))
theorem ow_ne {w : World} {B g : Nat} {v : Value} {xs : List Int} {t : TypeId} {cs : Array Value} (h : Ow w B v xs) (hb : Blk w g t cs) (hne : t ≠ 2) : v.ownBlock ≠ some g := h.blk_ne hb hne
end Go.Proofs.Ytneflhachjlmkaa
