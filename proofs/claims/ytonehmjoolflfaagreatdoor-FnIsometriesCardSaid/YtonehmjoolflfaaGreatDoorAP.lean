
/- append of a whole slice to a slice of int64 of the call's own, at an operation and at a plain list of operations; a part of a slice. -/
import Derived.Test.YtonehmjoolflfaaGreatDoorC2
import Derived.Maps.AppendAt
import Derived.Laws.AppendOwnNone
namespace Go.Proofs.YtonehmjoolflfaaGreatDoor
open Go Go.RowKit
set_option linter.unusedVariables false
/-- Behind append(v, ys...). -/
def Appd (w : World) (B : Nat) (v : Value) (xs ys : List Int) (v' : Value) (w' : World) : Prop :=
  Ow w' B v' (xs ++ ys) ∧ w.grownBy w' v.ownBlock ∧ (v'.ownBlock = v.ownBlock ∨ v'.ownBlock = some w.heap.size)
theorem run_app (w : World) (ty : TypeId) (B : Nat) (v : Value) (xs : List Int) (hown : Ow w B v xs) (B' : Nat) (A : Option Addr) (n c : Nat) (ys : List Int) (hsl : Sl w B' A n c ys) (hn : xs.length + n ≤ 10000000) (hB : B ≤ w.heap.size) :
    ∃ v' w', (Builtin.append_ #[24, 24] ty #[v, .slice A n c]).run Tryz.prog w = .ok v' w' ∧ Appd w B v xs ys v' w' := by
  obtain ⟨i0, hi0, hz0, hz1, hz2⟩ := info_parts int_info
  obtain rfl := hsl.len
  cases A with
  | none =>
    obtain ⟨h1, rfl, rfl⟩ := hsl.none_nil
    refine ⟨v, w, run_append_owned_none (P := Tryz.prog) (w := w) B 24 ty 2 i0 1 Tryz.underlying24 hi0 v xs.length _ hown, ?_, ⟨rfl, rfl, rfl, Nat.le_refl _, fun _ _ _ => rfl⟩, .inl rfl⟩
    simpa using hown
  | some ad =>
    obtain ⟨v', w', h1, h2, h3, _, h5⟩ := run_append_own_at (P := Tryz.prog) w B 24 ty 2 i0 _ 1 8 Tryz.underlying24 hi0 hz0 hz1 hz2 rfl (by omega) v xs.length _ hown ad ys.length c (ys.map (Value.int .i64)) (by simp) hsl.news ints_one (by unfold maxLen; omega) (by omega) hB
    refine ⟨v', w', h1, ?_, h3, h5⟩
    unfold Ow
    simpa using h2
theorem wp_app {o : Oper} {a : Act} {K : Act → World → Prop} {Q : Exit → Act → World → Prop} (w : World) (s x : Operand) (ho : o.op = .call { callee := .builtin .append, args := #[s, x], argTypes := #[24, 24] })
    (B : Nat) (v : Value) (xs : List Int) (hs : a.eval s = v) (hown : Ow w B v xs) (B' : Nat) (A : Option Addr) (n c : Nat) (ys : List Int) (hx : a.eval x = .slice A n c) (hsl : Sl w B' A n c ys) (hn : xs.length + n ≤ 10000000) (hB : B ≤ w.heap.size)
    (h : ∀ v' w', Appd w B v xs ys v' w' → K (a.put o.dst v') w') : o.wp Tryz.prog a w K Q := by
  obtain ⟨v', w', hr, hA⟩ := run_app w o.type B v xs hown B' A n c ys hsl hn hB
  unfold Oper.wp execOp
  simp only [ho, resolve, invoke, builtin, Sem.run_bind, Sem.run_pure, Result.andThen_ok, List.map_toArray, List.map_cons, List.map_nil, hs, hx, hr]
  exact h v' w' hA
theorem list_app {ops : Array Oper} {rest : List Oper} {o : Oper} {a : Act} {Q : Exit → Act → World → Prop} (w : World) (hgd : o.guard = none) (s x : Operand) (ho : o.op = .call { callee := .builtin .append, args := #[s, x], argTypes := #[24, 24] })
    (B : Nat) (v : Value) (xs : List Int) (hs : a.eval s = v) (hown : Ow w B v xs) (B' : Nat) (A : Option Addr) (n c : Nat) (ys : List Int) (hx : a.eval x = .slice A n c) (hsl : Sl w B' A n c ys) (hn : xs.length + n ≤ 10000000) (hB : B ≤ w.heap.size)
    (h : ∀ v' w', Appd w B v xs ys v' w' → wpList Tryz.prog ops Q rest (a.put o.dst v') w') : wpList Tryz.prog ops Q (o :: rest) a w :=
  wpList_plain hgd fun _ hK => wp_app w s x ho B v xs hs hown B' A n c ys hx hsl hn hB fun v' w' hA => hK _ _ (h v' w' hA)
section
variable {w w' : World} {B B' n c b off : Nat} {v v' : Value} {xs ys : List Int} {A : Option Addr}
theorem Appd.own (h : Appd w B v xs ys v' w') : Ow w' B v' (xs ++ ys) := h.1
theorem Appd.below (h : Appd w B v xs ys v' w') (ho : Ow w B v xs) (hB : B ≤ w.heap.size) : Below B w w' :=
  (Below.refl _ _).grown h.2.1 hB (fun k hk => (ho.lt k hk).1)
/-- A part of a slice that reads. -/
theorem Sl.part (h : Sl w B (some ⟨b, off, none⟩) n c xs) (t m c' : Nat) (ht : t + m ≤ n) (hc : m ≤ c') : Sl w B (some ⟨b, off + t, none⟩) m c' ((xs.drop t).take m) := by
  refine ⟨by have := h.len; simp; omega, hc, fun x hx => h.rng x (List.mem_of_mem_drop (List.mem_of_mem_take hx)), fun hm => ?_, fun e => by cases e⟩
  obtain ⟨b2, off2, e, hb, hcell⟩ := h.at_ (by omega)
  cases e
  refine ⟨b, off + t, rfl, hb, fun k hk => ?_⟩
  have h1 := hcell (t + k) (by omega)
  rw [show off + t + k = off + (t + k) by omega, h1]
  congr 2
  unfold gi
  rw [List.getD_eq_getElem?_getD, List.getD_eq_getElem?_getD, List.getElem?_take, if_pos hk, List.getElem?_drop]
/-- s[t:] -/
theorem Sl.tailC (h : Sl w B (some ⟨b, off, none⟩) n c xs) (t : Nat) (ht : t ≤ n) : Sl w B (if c = t then some ⟨b, off, none⟩ else some ⟨b, off + t, none⟩) (n - t) (c - t) (xs.drop t) := by
  have hc := h.cap
  have hl := h.len
  by_cases e : c = t
  · rw [if_pos e]
    refine ⟨by simp; omega, by omega, fun x hx => h.rng x (List.mem_of_mem_drop hx), fun hm => absurd hm (by omega), fun e => by cases e⟩
  · rw [if_neg e]
    have h1 := h.part t (n - t) (c - t) (by omega) (by omega)
    rwa [List.take_of_length_le (by simp; omega)] at h1
/-- s[:t] -/
theorem Sl.headC (h : Sl w B A n c xs) (t : Nat) (ht : t ≤ n) : Sl w B A t c (xs.take t) := by
  have hc := h.cap
  have hl := h.len
  refine ⟨by simp; omega, by omega, fun x hx => h.rng x (List.mem_of_mem_take hx), fun hm => ?_, h.nil_⟩
  obtain ⟨b2, off2, e, hb, hcell⟩ := h.at_ (by omega)
  refine ⟨b2, off2, e, hb, fun k hk => ?_⟩
  rw [hcell k (by omega)]
  congr 2
  unfold gi
  rw [List.getD_eq_getElem?_getD, List.getD_eq_getElem?_getD, List.getElem?_take, if_pos hk]
end
end Go.Proofs.YtonehmjoolflfaaGreatDoor
