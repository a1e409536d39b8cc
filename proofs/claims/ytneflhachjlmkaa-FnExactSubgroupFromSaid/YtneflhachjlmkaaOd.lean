
/- Regions that draw their order, where the world only draws, or only grows: the world is a new name behind each call. -/
import Derived.Test.YtneflhachjlmkaaOrd
import Derived.Test.YtneflhachjlmkaaBase
namespace Go.Proofs.Ytneflhachjlmkaa
open Go Go.RowKit

/-- The world w is W, and has drawn. -/
def Dr (W w : World) : Prop := ∃ k, w = W.drewN k
theorem Dr.refl (W : World) : Dr W W := ⟨0, rfl⟩
theorem Dr.one (W : World) : Dr W W.drew := ⟨1, rfl⟩
theorem Dr.step {W w w' : World} (h : Dr W w) {m : Nat} (hw : w' = w.drewN m) : Dr W w' := by
  obtain ⟨k, rfl⟩ := h
  exact ⟨k + m, hw.trans (World.drewN_drewN _ _ _)⟩
theorem Dr.drew {W w : World} (h : Dr W w) : Dr W w.drew := h.step (m := 1) rfl
theorem Dr.below {W w w0 : World} {B : Nat} (h : Dr W w) (hb : Below B w0 W) : Below B w0 w := by
  obtain ⟨k, rfl⟩ := h
  exact below_drewN hb k
theorem Dr.all {W w : World} {B : Nat} (h : Dr W w) : Below B W w := h.below (Below.refl _ _)
theorem Qt.dr {w : World} {v : Value} {e : Ending} {w' : World} (h : Qt w v e w') : e = .returned v ∧ Dr w w' := h
theorem Dr.trans {A B C : World} (h : Dr A B) (k : Dr B C) : Dr A C := by obtain ⟨m, rfl⟩ := k; exact h.step rfl

section
variable {P : Program} {ops : Array Oper} {Q : Exit → Act → World → Prop}
/-- A region behind which the world is W, and has drawn. -/
theorem wp_region_dr {id : Nat} {a : Act} {w : World} (l : List Nat) (z : Nat) (W : World) (hm : P.follows .mixedOrders = true) (hs : Region.noSelect ops = true)
    (hok : (l.length == ops.size && orderOk .any ops z l (Array.replicate ops.size false)) = true)
    (hQ : ∀ c a d v w, Q (.panic c) (Act.put a (some d) v) w → Q (.panic c) a w) (hS : Dr W w) (h : ∀ wd, Dr W wd → OrdW P ops Q (Dr W) z l a wd) : (Code.region id ops true).wp P Q a w :=
  wp_region_ord l z (Dr W) hm hs hok hQ hS.drew (h _ hS.drew)
/-- A region behind which what lay in W below B lies as it lay. -/
theorem wp_region_be {id : Nat} {a : Act} {w : World} (l : List Nat) (z : Nat) (B : Nat) (W : World) (hm : P.follows .mixedOrders = true) (hs : Region.noSelect ops = true)
    (hok : (l.length == ops.size && orderOk .any ops z l (Array.replicate ops.size false)) = true)
    (hQ : ∀ c a d v w, Q (.panic c) (Act.put a (some d) v) w → Q (.panic c) a w) (hS : Below B W w) (h : ∀ wd, Below B W wd → OrdW P ops Q (Below B W) z l a wd) : (Code.region id ops true).wp P Q a w :=
  wp_region_ord l z (Below B W) hm hs hok hQ hS.drew (h _ hS.drew)
theorem ord_tk {S : World → Prop} {z : Nat} {i : Nat} {l : List Nat} {a : Act} {w : World} {o : Oper} {v : Value} {d : Nat} (ho : ops[i]? = some o) (hd : o.dst = some d) (ht : takes z o i = true)
    (hw : Region.wanted o (yielded ops a.tmps) = true) (hy : ∀ w, S w → (execOp a.eval o).run P w = .ok (.value v) w) (h : OrdW P ops Q S z l (a.put (some d) v) w) : OrdW P ops Q S z (i :: l) a w := ord_take ho ht hw hy (hd ▸ h)
theorem ord_skip {S : World → Prop} {z : Nat} {i : Nat} {l : List Nat} {a : Act} {w : World} {o : Oper} {d : Nat} (ho : ops[i]? = some o) (hd : o.dst = some d)
    (hw : Region.wanted o (yielded ops a.tmps) = false) (hS : i < z → S w) (h : OrdW P ops Q S z l (a.put (some d) undef) w) : OrdW P ops Q S z (i :: l) a w := ord_pass ho hw hS (hd ▸ h)
end
end Go.Proofs.Ytneflhachjlmkaa
