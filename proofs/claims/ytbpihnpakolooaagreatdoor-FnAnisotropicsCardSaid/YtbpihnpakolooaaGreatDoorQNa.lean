
/- The walks of l11Leader, l11Isotropy. The walks of heldInt64SS, heldInt64SSS. The kind of a condensation: leaders, a table, a modulus and values. The walk of l11Condense. The walk of l11Condense. -/
import Derived.Test.YtbpihnpakolooaaGreatDoorCma
import Derived.WalkLawsBesides
import Derived.Test.YtbpihnpakolooaaGreatDoorNW1
import Derived.Test.YtbpihnpakolooaaGreatDoorKD0
import Derived.Test.YtbpihnpakolooaaGreatDoorNa
import Derived.Test.YtbpihnpakolooaaGreatDoorBa
import Derived.Deep.DeepCutAuto
namespace Go.Proofs.YtbpihnpakolooaaGreatDoor
open Go Go.RowKit Grp
set_option linter.unusedSimpArgs false
set_option linter.unusedVariables false
set_option maxRecDepth 100000
noncomputable def codeI (os : List Int) (D : Int) (vs xs : List Int) : Int := if codeS os D vs xs = 0 then if isoB vs xs = true then 0 else 5 else codeS os D vs xs
theorem codeI_0 {os vs xs : List Int} {D : Int} (h : codeI os D vs xs = 0) : Cs os D vs xs ∧ IsLst (prodL os) xs := by
 unfold codeI at h
 by_cases h1 : codeS os D vs xs = 0
 ·rw [if_pos h1] at h
  by_cases h2 : isoB vs xs = true
  ·exact ⟨Cs.of h1 h2, (codeS_0 h1).2.1⟩
  ·rw [if_neg h2] at h; omega
 ·rw [if_neg h1] at h; exact absurd h h1

abbrev quotient_T := List Int × List (List Int) × Int × List Int
def quotient_R (w : World) (B : Nat) (v : Value) (x : quotient_T) : Prop := ∃ A n c F p f D m e, v = .agg #[.slice A n c, .slice F p f, .int .i64 x.2.2.1, .slice D m e] ∧ Sl w B A n c x.1 ∧ Sl2 w B F p f x.2.1 ∧ Sl w B D m e x.2.2.2
def quotient_E : Own quotient_T := fun w v x fp => ∃ u1 u2 u3 F1 F2 F3, v = .agg #[u1, u2, .int .i64 x.2.2.1, u3] ∧ E1 w u1 x.1 F1 ∧ E2 w u2 x.2.1 F2 ∧ E1 w u3 x.2.2.2 F3 ∧ (∀ b, F1 b → F2 b → False) ∧ (∀ b, F1 b → F3 b → False) ∧ (∀ b, F2 b → F3 b → False) ∧ (∀ b, F1 b → fp b) ∧ (∀ b, F2 b → fp b) ∧ (∀ b, F3 b → fp b) ∧ (∀ b, fp b → b < w.heap.size)
section
variable {w w' : World} {B B' : Nat} {v : Value} {x : quotient_T} {fp fq : Nat → Prop}
theorem quotient_form (h : quotient_R w B v x) : ∃ A n c F p f z D m e, v = .agg #[.slice A n c, .slice F p f, .int .i64 z, .slice D m e] ∧ x.2.2.1 = z := by
 obtain ⟨A, n, c, F, p, f, D, m, e, h1, _⟩ := h
 exact ⟨A, n, c, F, p, f, _, D, m, e, h1, rfl⟩
theorem quotient_rd (h : quotient_E w v x fp) : quotient_R w w.heap.size v x := by
 obtain ⟨u1, u2, u3, F1, F2, F3, rfl, h1, h2, h3, _⟩ := h
 obtain ⟨A, c, rfl, hs⟩ := h1.sl
 obtain ⟨F, f, rfl, hs2⟩ := E2.sl2 h2
 obtain ⟨D, e, rfl, hs3⟩ := h3.sl
 exact ⟨A, _, c, F, _, f, D, _, e, rfl, hs, hs2, hs3⟩
theorem quotient_kp : Kp quotient_E := by
 intro w w' v x fp h hk hs
 obtain ⟨u1, u2, u3, F1, F2, F3, e, h1, h2, h3, a1, a2, a3, s1, s2, s3, hb⟩ := h
 exact ⟨u1, u2, u3, F1, F2, F3, e, kp1 _ _ _ _ _ h1 (fun b hb => hk b (s1 b hb)) hs, kp2 _ _ _ _ _ h2 (fun b hb => hk b (s2 b hb)) hs, kp1 _ _ _ _ _ h3 (fun b hb => hk b (s3 b hb)) hs, a1, a2, a3, s1, s2, s3, fun b h => Nat.lt_of_lt_of_le (hb b h) hs⟩
theorem quotient_bd (h : quotient_E w v x fp) : ∀ b, fp b → b < w.heap.size := by
 obtain ⟨_, _, _, _, _, _, _, _, _, _, _, _, _, _, _, _, h6⟩ := h
 exact h6
theorem quotient_wr (h : quotient_E w v x fp) (hw : Wr w w' fq) (hd : ∀ b, fp b → fq b → False) : quotient_E w' v x fp := quotient_kp _ _ _ _ _ h (fun b hb => hw.block b (quotient_bd h b hb) (hd b hb)) hw.size
theorem quotient_none (w : World) (fp : Nat → Prop) (hb : ∀ b, fp b → b < w.heap.size) (q : Int) : quotient_E w (.agg #[.slice none 0 0, .slice none 0 0, .int .i64 q, .slice none 0 0]) ([], [], q, []) fp := by
 have hn : ∀ b, False → b < w.heap.size := fun _ h => h.elim
 exact ⟨_, _, _, fun _ => False, fun _ => False, fun _ => False, rfl, E1.nil w _ hn, ⟨⟨[], fun _ _ => False, World.ownsRow_nil _ _ _ _, rfl, fun k u x h => by simp at h, fun _ _ _ h => h.elim, fun _ _ h => h.elim⟩, fun b hb => by simp [Value.ownBlock] at hb, hn⟩, E1.nil w _ hn, fun _ h => h.elim, fun _ h => h.elim, fun _ h => h.elim, fun _ h => h.elim, fun _ h => h.elim, fun _ h => h.elim, hb⟩
end
def ldO (os : List Int) (D : Int) (vs xs : List Int) : List Int := ldL os xs (ortL os D vs xs vs.length) (ortL os D vs xs vs.length).length
def condQ (os : List Int) (D : Int) (vs xs : List Int) : quotient_T := (ldO os D vs xs, ctab os xs (ldO os D vs xs), D, (ldO os D vs xs).map (Vl vs))
structure QIn (w : World) (g : Nat) (vO vL vV : Value) (O L V : List Int) (q : Int) (wr : World) : Prop where
 orth : Ow wr w.heap.size vO O
 out : Blk wr g 31 #[vL, .slice none 0 0, .int .i64 q, vV]
 lds : Ow wr w.heap.size vL L
 vals : Ow wr w.heap.size vV V
 aO : Apart vO vL
 aV : Apart vO vV
 aL : Apart vL vV
 below : Below w.heap.size w wr
section
variable {w wr w1 w2 : World} {g : Nat} {vO vL vV : Value} {O L V : List Int} {q : Int}
theorem QIn.all (h : QIn w g vO vL vV O L V q wr) (hb : Below wr.heap.size wr w1) : QIn w g vO vL vV O L V q w1 :=
 ⟨h.orth.below hb, h.out.all hb, h.lds.below hb, h.vals.below hb, h.aO, h.aV, h.aL, h.below.trans (hb.mono h.below.size)⟩
end
structure QTb (W : World) (g : Nat) (vL vV : Value) (q : Int) (vT : Value) (T : List (List Int)) (wr : World) : Prop where
 out : Blk wr g 31 #[vL, vT, .int .i64 q, vV]
 tab : Grow E1 24 W.heap.size wr vT T
 kept : Wr W wr (fun b => b = g)
 lt : g < W.heap.size
section
variable {W wr w1 w6 w7 : World} {g : Nat} {vL vV vT v2 : Value} {q : Int} {T T' : List (List Int)}
theorem QTb.bel (h : QTb W g vL vV q vT T wr) (hb : Below wr.heap.size wr w1) : QTb W g vL vV q vT T w1 :=
 ⟨h.out.all hb, h.tab.bel kp1 hb, h.kept.trans (Wr.of_below hb), h.lt⟩
theorem QTb.next (h : QTb W g vL vV q vT T w6) (hB : Below W.heap.size w6 w7) (hG : Grow E1 24 W.heap.size w7 v2 T') : QTb W g vL vV q v2 T' (w7.setCell ⟨g, 1, none⟩ v2) := by
 have hlt := h.lt
 have out' : Blk w7 g 31 #[vL, vT, .int .i64 q, vV] := h.out.below hB hlt
 have hw : Wr w7 (w7.setCell ⟨g, 1, none⟩ v2) (fun b => b = g) := ⟨rfl, rfl, rfl, by simp [World.setCell], fun b _ hn => Below.heap_setCell _ _ _ _ (fun e => hn (show b = g from e.symm ▸ rfl))⟩
 have h67 : Wr w6 w7 (fun b => W.heap.size ≤ b) := ⟨hB.os, hB.tape, hB.output, hB.size, fun b _ hn => hB.block b (by omega)⟩
 refine ⟨out'.store 1 _, hG.wr kp1 hw (fun b hb' => by right; omega), ?_, hlt⟩
 have hk := h.kept
 refine ⟨hw.os.trans (hB.os.trans hk.os), hw.tape.trans (hB.tape.trans hk.tape), hw.output.trans (hB.output.trans hk.output), Nat.le_trans hk.size (Nat.le_trans hB.size hw.size), fun b hb hn => ?_⟩
 rw [hw.block b (Nat.lt_of_lt_of_le hb (Nat.le_trans hk.size hB.size)) hn, hB.block b hb, hk.block b hb hn]
theorem QTb.cell (h : QTb W g vL vV q vT T wr) {p : Addr} (hp : p.block < W.heap.size) (hn : p.block ≠ g) : wr.cell? p = W.cell? p := by
 have := h.kept.block p.block hp hn
 simp [World.cell?, this]
end
def put4 (w : World) (g : Nat) (x y z u : Value) : World := (put3 w g x y z).setCell ⟨g, 3, none⟩ u
section
variable {w : World} {g : Nat} {t : TypeId} {a b c d x y z u : Value}
theorem put4_blk (h : Blk w g t #[a, b, c, d]) : Blk (put4 w g x y z u) g t #[x, y, z, u] := (((h.store 0 x).store 1 y).store 2 z).store 3 u
theorem put4_below {B : Nat} {w0 : World} (h : Below B w0 w) (hB : B ≤ g) : Below B w0 (put4 w g x y z u) := (put3_below h hB).setCell hB u
theorem put4_size : (put4 w g x y z u).heap.size = w.heap.size := by simp [put4, put3, World.setCell]
theorem put4_wr : Wr w (put4 w g x y z u) (fun b => b = g) := ⟨rfl, rfl, rfl, by rw [put4_size]; exact Nat.le_refl _, fun b _ hn => by
 unfold put4 put3
 have hne : ∀ i, b ≠ (⟨g, i, none⟩ : Addr).block := fun i e => hn e
 rw [Below.heap_setCell _ ⟨g, 3, none⟩ _ b (hne 3), Below.heap_setCell _ ⟨g, 2, none⟩ _ b (hne 2), Below.heap_setCell _ ⟨g, 1, none⟩ _ b (hne 1), Below.heap_setCell _ ⟨g, 0, none⟩ _ b (hne 0)]⟩
end
theorem QTb.fin {w0 W wr : World} {B r g : Nat} {vL vV vT : Value} {L V : List Int} {q : Int} {T : List (List Int)} (h : QTb W g vL vV q vT T wr) (hb : Below w0.heap.size w0 W) (hr0 : w0.heap.size ≤ r) (hrW : r < B) (hB : B ≤ W.heap.size) (hB0 : w0.heap.size ≤ B) (hg0 : w0.heap.size ≤ g)
  (hL : Ow W B vL L) (hV : Ow W B vV V) (ha : Apart vL vV) (hLr : ∀ x ∈ L, i64ok x) (hVr : ∀ x ∈ V, i64ok x) (hLg : vL.ownBlock ≠ some g) (hVg : vV.ownBlock ≠ some g) :
  ∃ v, (.returned (.agg #[vL, vT, .int .i64 q, vV]) : Ending) = .returned v ∧ quotient_E (put4 wr r vL vT (.int .i64 q) vV) v (L, T, q, V) (fun b => w0.heap.size ≤ b ∧ b < (put4 wr r vL vT (.int .i64 q) vV).heap.size) ∧ Below w0.heap.size w0 (put4 wr r vL vT (.int .i64 q) vV) := by
 have hw : Wr wr (put4 wr r vL vT (.int .i64 q) vV) (fun b => b = r) := put4_wr
 have hsz : (put4 wr r vL vT (.int .i64 q) vV).heap.size = wr.heap.size := put4_size
 have hks := h.kept.size
 have hL1 : Ow wr B vL L := h.kept.own hL (fun b hb e => hLg (by rw [hb, e]))
 have hV1 : Ow wr B vV V := h.kept.own hV (fun b hb e => hVg (by rw [hb, e]))
 have hL2 := hw.own hL1 (fun b hb e => by have := (hL.lt b hb).1; omega)
 have hV2 := hw.own hV1 (fun b hb e => by have := (hV.lt b hb).1; omega)
 have hT : E2 wr vT T (fun b => W.heap.size ≤ b ∧ b < wr.heap.size) := h.tab.toL
 refine ⟨_, rfl, ⟨vL, vT, vV, fun b => vL.ownBlock = some b, fun b => W.heap.size ≤ b ∧ b < wr.heap.size, fun b => vV.ownBlock = some b, rfl, ⟨hL2.less (Nat.zero_le _), hLr, fun _ h => h, fun b hb => (hL2.lt b hb).2⟩,
  kp2 _ _ _ _ _ hT (fun b hb => hw.block b hb.2 (by have := hb.1; omega)) hw.size, ⟨hV2.less (Nat.zero_le _), hVr, fun _ h => h, fun b hb => (hV2.lt b hb).2⟩, fun b h1 h2 => ?_, fun b h1 h2 => ha b h1 h2, fun b h1 h2 => ?_, fun b hb => ?_, fun b hb => ?_, fun b hb => ?_, fun b hb => hb.2⟩, ?_⟩
 ·have := (hL.lt b h1).2; have := h2.1; omega
 ·have := (hV.lt b h2).2; have := h1.1; omega
 ·have := hL2.lt b hb; omega
 ·have := hb.1; have := hb.2; omega
 ·have := hV2.lt b hb; omega
 ·refine put4_below ?_ hr0
  exact hb.trans (h.kept.below (fun b hb => by omega) (by omega))
theorem owne {w : World} {B g : Nat} {v : Value} {xs : List Int} {t : TypeId} {cs : Array Value} (h : Ow w B v xs) (hb : Blk w g t cs) (hne : t ≠ 2) : v.ownBlock ≠ some g := h.blk_ne hb hne
end Go.Proofs.YtbpihnpakolooaaGreatDoor
