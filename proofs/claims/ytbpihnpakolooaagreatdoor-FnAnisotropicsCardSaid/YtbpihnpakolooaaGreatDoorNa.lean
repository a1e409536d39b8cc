
/- append of one element to a row of the call's own, of any element type that is one cell wide. Rows of owned things under construction: append of one more. -/
import Derived.Test.YtbpihnpakolooaaGreatDoorNS
import Derived.Test.YtbpihnpakolooaaGreatDoorNW1
namespace Go.Proofs.YtbpihnpakolooaaGreatDoor
open Go Go.RowKit
set_option linter.unusedVariables false

def PushV (t : TypeId) (w : World) (B : Nat) (v : Value) (us : List Value) (y : Value) (H g cap : Nat) (w' : World) : Prop :=
 OwV w' B t (.slice (some ⟨g, 0, none⟩) (us.length + 1) cap) (us ++ [y]) ∧ w.grownBy w' v.ownBlock ∧ (v.ownBlock = some g ∨ g = H + 1) ∧ g < w'.heap.size
section
variable {ops : Array Oper} {rest : List Oper} {o : Oper} {a : Act} {K : Act → World → Prop} {Q : Exit → Act → World → Prop}
theorem list_pushV (st t : TypeId) (z : Value) (bytes : Nat) (hu : Tryz.prog.underlying st = some (.slice t)) (hinfo : (Tryz.prog.info? t).map (fun i => (i.zero, i.size, i.bytes)) = some (some z, 1, bytes)) (hby : bytes ≤ 24) (hzc : z.cells = #[z])
  (w : World) (hgd : o.guard = none) (s x : Operand)
  (ho : o.op = .call { callee := .builtin .append, args := #[s, x], argTypes := #[st, st] })
  (B : Nat) (v : Value) (us : List Value) (hs : a.eval s = v) (hown : OwV w B t v us) (y : Value) (hy : y.oneCell' = true) (H T : Nat) (hx : a.eval x = .slice (some ⟨H, 0, none⟩) 1 1) (hb : Blk w H T #[y])
  (hn : us.length ≤ 1048576) (hB : B ≤ w.heap.size) (hH : w.heap.size = H + 1)
  (h : ∀ g cap w', PushV t w B v us y H g cap w' → wpList Tryz.prog ops Q rest (a.put o.dst (.slice (some ⟨g, 0, none⟩) (us.length + 1) cap)) w') :
  wpList Tryz.prog ops Q (o :: rest) a w := by
 obtain ⟨i0, hi0, hz0, hz1, hz2⟩ := info_parts hinfo
 refine wpList_append_lies w hgd s x _ ho B t i0 _ 1 bytes hu hi0 hz0 hz1 hz2 (by rw [hzc]; rfl) (by omega) v us.length _ hs hown ⟨H, 0, none⟩ 1 1 [y] hx rfl
  (World.news_of_block (cs := #[y]) hb) (by simpa using hy) (by omega) (by unfold maxLen; omega) (by have h1 : (us.length + 1) * bytes ≤ (us.length + 1) * 24 := Nat.mul_le_mul_left _ hby; omega) hB (H + 1) hH ?_
 intro g cap w' h2 h3 h4 h5
 refine h g cap w' ⟨?_, h3, h4, h5⟩
 unfold OwV
 simpa using h2
end
section
variable {t : TypeId} {w w' : World} {B H g cap : Nat} {v : Value} {us : List Value} {y : Value}
theorem PushV.own (h : PushV t w B v us y H g cap w') : OwV w' B t (.slice (some ⟨g, 0, none⟩) (us.length + 1) cap) (us ++ [y]) := h.1
theorem PushV.below (h : PushV t w B v us y H g cap w') (ho : OwV w B t v us) (hB : B ≤ w.heap.size) : Below B w w' :=
 (Below.refl _ _).grown h.2.1 hB (fun k hk => (OwV.lt ho k hk).1)
theorem PushV.wr (h : PushV t w B v us y H g cap w') : Wr w w' (fun b => v.ownBlock = some b) := Wr.of_grown h.2.1 fun _ h => h
theorem OwV.alloc (h : OwV w B t v us) (o : Obj) : OwV (w.alloc o) B t v us := World.ownsRow.alloc h o
theorem OwV.drewN (h : OwV w B t v us) (k : Nat) : OwV (w.drewN k) B t v us := h
theorem OwV.bel (h : OwV w B t v us) (hb : Below w.heap.size w w') : OwV w' B t v us := h.keep fun b hbb => hb.block b (h.lt b hbb).2
theorem OwV.made (w : World) (t : TypeId) (g : Nat) (hg : w.heap.size = g) (hB : B ≤ g) : OwV (w.alloc (.cells #[] t)) B t (.slice (some ⟨g, 0, none⟩) 0 0) [] := by
 subst hg
 exact ⟨rfl, .inr ⟨w.heap.size, 0, #[], rfl, hB, heap_alloc_new w _, Nat.le_refl _, by unfold maxLen; omega, rfl, rfl⟩⟩
theorem OwV.form (h : OwV w B t v us) : (v = .slice none 0 0 ∧ us = []) ∨ ∃ g cap, v = .slice (some ⟨g, 0, none⟩) us.length cap ∧ B ≤ g ∧ g < w.heap.size ∧ us.length ≤ cap ∧ ∀ k u, us[k]? = some u → w.cell? ⟨g, k, none⟩ = some u := by
 obtain ⟨h1, h2⟩ := h
 rcases h2 with ⟨h2, h3⟩ | ⟨g, cap, cur, hv, hg, hh, hn, hm, hs, hx⟩
 ·exact .inl ⟨h2, List.eq_nil_of_length_eq_zero h3⟩
 ·have hl : g < w.heap.size := by
   rcases Nat.lt_or_ge g w.heap.size with h | h
   ·exact h
   ·rw [Array.getElem?_eq_none h] at hh; cases hh
  refine .inr ⟨g, cap, hv, hg, hl, hn, fun k u hu => ?_⟩
  have hk := (List.getElem?_eq_some_iff.1 hu).1
  have h5 : (cur.toList.take (us.length * 1))[k]? = us[k]? := by rw [hx]
  rw [List.getElem?_take, if_pos (by omega), hu] at h5
  simp only [World.cell?, hh]
  simpa using h5
end
theorem get_lt' {α : Type} {xs : List α} {k : Nat} {x : α} (h : xs[k]? = some x) : k < xs.length := (List.getElem?_eq_some_iff.1 h).1
structure OwU {α : Type} (E : Own α) (t : TypeId) (w : World) (v : Value) (us : List Value) (xs : List α) (fp : Nat → Prop) (F : Nat → Nat → Prop) : Prop where
 row : OwV w 0 t v us
 len : us.length = xs.length
 each : ∀ (k : Nat) u x, us[k]? = some u → xs[k]? = some x → E w u x (F k)
 dis : ∀ j k b, F j b → F k b → j = k
 sub : ∀ k b, F k b → fp b ∧ v.ownBlock ≠ some b
 fp_ : ∀ b, v.ownBlock = some b → fp b
 bd : ∀ b, fp b → b < w.heap.size
theorem OwL.open_ {α : Type} {E : Own α} {t : TypeId} {w : World} {v : Value} {xs : List α} {fp : Nat → Prop} (h : OwL E t w v xs fp) : ∃ us F, OwU E t w v us xs fp F := by
 obtain ⟨us, F, h1, h2, h3, h4, h5⟩ := h.ex
 exact ⟨us, F, h1, h2, h3, h4, h5, h.fp_, h.bd⟩
theorem OwU.close {α : Type} {E : Own α} {t : TypeId} {w : World} {v : Value} {us : List Value} {xs : List α} {fp : Nat → Prop} {F : Nat → Nat → Prop} (h : OwU E t w v us xs fp F) : OwL E t w v xs fp :=
 ⟨⟨us, F, h.row, h.len, h.each, h.dis, h.sub⟩, h.fp_, h.bd⟩
theorem OwU.bel {α : Type} {E : Own α} (hE : Kp E) {t : TypeId} {w w' : World} {v : Value} {us : List Value} {xs : List α} {fp : Nat → Prop} {F : Nat → Nat → Prop} (h : OwU E t w v us xs fp F) (hb : Below w.heap.size w w') : OwU E t w' v us xs fp F :=
 ⟨h.row.bel hb, h.len, fun k u x hu hx => hE _ _ _ _ _ (h.each k u x hu hx) (fun b hf => hb.block b (h.bd b (h.sub k b hf).1)) hb.size, h.dis, h.sub, h.fp_, fun b hf => Nat.lt_of_lt_of_le (h.bd b hf) hb.size⟩
theorem OwU.push {α : Type} {E : Own α} (hE : Kp E) {t : TypeId} {w w' : World} {v u : Value} {us : List Value} {xs : List α} {x : α} {fp fu : Nat → Prop} {F : Nat → Nat → Prop} (h : OwU E t w v us xs fp F) (he : E w u x fu)
  (hd : ∀ b, fu b → ¬ fp b) (hfu : ∀ b, fu b → b < w.heap.size) {B H g cap : Nat} (hH : w.heap.size = H + 1) (hP : PushV t w B v us u H g cap w') :
  OwL E t w' (.slice (some ⟨g, 0, none⟩) (xs.length + 1) cap) (xs ++ [x]) (fun b => fp b ∨ fu b ∨ b = g) := by
 obtain ⟨p1, p2, p3, p4⟩ := hP
 have hgx : ∀ b, b < w.heap.size → v.ownBlock ≠ some b → b ≠ g := by
  rintro b hb hn rfl
  rcases p3 with p3 | p3
  ·exact hn p3
  ·omega
 have hks : ∀ b, fp b → v.ownBlock ≠ some b → w'.heap[b]? = w.heap[b]? := fun b hb hn => p2.block b (h.bd b hb) fun e => hn e.symm
 have hvu : ∀ b, fu b → v.ownBlock ≠ some b := fun b hb e => hd b hb (h.fp_ b e)
 have hku : ∀ b, fu b → w'.heap[b]? = w.heap[b]? := fun b hb => p2.block b (hfu b hb) fun e => hvu b hb e.symm
 rw [← h.len]
 refine ⟨⟨us ++ [u], fun k b => if k < us.length then F k b else k = us.length ∧ fu b, ?_, by simp [h.len], fun k y z hy hz => ?_, fun j k b hj hk => ?_, fun k b hk => ?_⟩, fun b hb => ?_, fun b hb => ?_⟩
 ·have : us.length + 1 = (us ++ [u]).length := by simp
  unfold OwV at p1 ⊢
  rw [← this] at p1 ⊢
  exact ⟨p1.1, by
   rcases p1.2 with ⟨h1, _⟩ | ⟨g', c', cur, h1, _, h3⟩
   ·cases h1
   ·exact .inr ⟨g', c', cur, h1, Nat.zero_le _, h3⟩⟩
 ·by_cases hk : k < us.length
  ·rw [List.getElem?_append_left hk] at hy
   rw [List.getElem?_append_left (by rw [← h.len]; exact hk)] at hz
   simp only [hk, ↓reduceIte]
   exact hE _ _ _ _ _ (h.each k y z hy hz) (fun b hb => hks b (h.sub k b hb).1 (h.sub k b hb).2) p2.size
  ·have hk' : k = us.length := by
    have := get_lt' hy
    simp at this; omega
   subst hk'
   rw [List.getElem?_append_right (Nat.le_refl _), Nat.sub_self] at hy
   rw [List.getElem?_append_right (by rw [h.len]; exact Nat.le_refl _), h.len, Nat.sub_self] at hz
   simp only [List.getElem?_cons_zero, Option.some.injEq] at hy hz
   subst hy; subst hz
   have e : (fun b => if us.length < us.length then F us.length b else us.length = us.length ∧ fu b) = fu := by
    funext b; simp
   have h9 := hE _ w' _ _ _ he hku p2.size
   rw [← e] at h9
   exact h9
 ·simp only at hj hk
  split at hj
  ·split at hk
   ·exact h.dis j k b hj hk
   ·exact absurd (h.sub j b hj).1 (hd b hk.2)
  ·split at hk
   ·exact absurd (h.sub k b hk).1 (hd b hj.2)
   ·rw [hj.1, hk.1]
 ·simp only at hk
  split at hk
  ·have := h.sub k b hk
   exact ⟨.inl this.1, by simp only [Value.ownBlock, ne_eq, Option.some.injEq]; exact fun e => hgx b (h.bd b this.1) this.2 e.symm⟩
  ·exact ⟨.inr (.inl hk.2), by simp only [Value.ownBlock, ne_eq, Option.some.injEq]; exact fun e => hgx b (hfu b hk.2) (hvu b hk.2) e.symm⟩
 ·simp only [Value.ownBlock, Option.some.injEq] at hb
  exact .inr (.inr hb.symm)
 ·have hs := p2.size
  rcases hb with hb | hb | rfl
  ·exact Nat.lt_of_lt_of_le (h.bd b hb) hs
  ·exact Nat.lt_of_lt_of_le (hfu b hb) hs
  ·exact p4

def Grow {α : Type} (E : Own α) (t : TypeId) (B : Nat) (w : World) (v : Value) (xs : List α) : Prop := ∃ us F fp, OwU E t w v us xs fp F ∧ ∀ b, fp b → B ≤ b
section
variable {α : Type} {E : Own α} {t : TypeId} {B B' : Nat} {w w' : World} {v : Value} {xs : List α}
theorem Grow.start {g : Nat} (hg : w.heap.size = g) (hB : B ≤ g) : Grow E t B (w.alloc (.cells #[] t)) (.slice (some ⟨g, 0, none⟩) 0 0) ([] : List α) := by
 refine ⟨[], fun _ _ => False, fun b => b = g, ⟨OwV.made w t g hg (Nat.zero_le _), rfl, fun k u x h => by simp at h, fun _ _ _ h => h.elim, fun _ _ h => h.elim, fun b hb => ?_, fun b hb => by rw [hb]; simp; omega⟩, fun b hb => by omega⟩
 simp only [Value.ownBlock, Option.some.injEq] at hb
 exact hb.symm
theorem Grow.nil (w : World) : Grow E t B w (.slice none 0 0) ([] : List α) :=
 ⟨[], fun _ _ => False, fun _ => False, ⟨World.ownsRow_nil _ _ _ _, rfl, fun k u x h => by simp at h, fun _ _ _ h => h.elim, fun _ _ h => h.elim, fun b hb => by simp [Value.ownBlock] at hb, fun b hb => hb.elim⟩, fun b hb => hb.elim⟩
theorem Grow.bel (hE : Kp E) (h : Grow E t B w v xs) (hb : Below w.heap.size w w') : Grow E t B w' v xs := by
 obtain ⟨us, F, fp, h1, h2⟩ := h
 exact ⟨us, F, fp, h1.bel hE hb, h2⟩
theorem Grow.ofL {fp : Nat → Prop} (h : OwL E t w v xs fp) (hf : ∀ b, fp b → B ≤ b) : Grow E t B w v xs := by
 obtain ⟨us, F, h1⟩ := h.open_
 exact ⟨us, F, fp, h1, hf⟩
theorem Grow.toL (h : Grow E t B w v xs) : OwL E t w v xs (fun b => B ≤ b ∧ b < w.heap.size) := by
 obtain ⟨us, F, fp, h1, h2⟩ := h
 exact h1.close.mono (fun b hb => ⟨h2 b hb, h1.bd b hb⟩) (fun b hb => hb.2)
theorem Grow.val (h : Grow E t B w v xs) : ∃ A c, v = .slice A xs.length c := by
 obtain ⟨A, c, e, _⟩ := OwL.rd (P := fun _ _ => True) h.toL fun _ _ _ _ => trivial
 exact ⟨A, c, e⟩
theorem Grow.wr (hE : Kp E) (h : Grow E t B w v xs) {fq : Nat → Prop} (hw : Wr w w' fq) (hd : ∀ b, fq b → w.heap.size ≤ b ∨ b < B) : Grow E t B w' v xs := by
 obtain ⟨us, F, fp, h1, h2⟩ := h
 refine Grow.ofL (fp := fp) (kpL hE _ _ _ _ _ h1.close (fun b hb => hw.block b (h1.bd b hb) fun hq => ?_) hw.size) h2
 have := h1.bd b hb; have := h2 b hb; have := hd b hq; omega
end
theorem list_pushG {α : Type} {E : Own α} (hE : Kp E) {ops : Array Oper} {rest : List Oper} {o : Oper} {a : Act} {Q : Exit → Act → World → Prop} (st t : TypeId) (z : Value) (bytes : Nat) (hu : Tryz.prog.underlying st = some (.slice t)) (hinfo : (Tryz.prog.info? t).map (fun i => (i.zero, i.size, i.bytes)) = some (some z, 1, bytes)) (hby : bytes ≤ 24) (hzc : z.cells = #[z])
  (w : World) (hgd : o.guard = none) (s x : Operand) (ho : o.op = .call { callee := .builtin .append, args := #[s, x], argTypes := #[st, st] })
  (B : Nat) (v : Value) (xs : List α) (hs : a.eval s = v) (w0 : World) (hG : Grow E t B w0 v xs) (hw : Below w0.heap.size w0 w) (u : Value) (e : α) (fu : Nat → Prop) (he : E w u e fu) (hfu : ∀ b, fu b → w0.heap.size ≤ b ∧ b < w.heap.size) (hu1 : u.oneCell' = true)
  (H T : Nat) (hx : a.eval x = .slice (some ⟨H, 0, none⟩) 1 1) (hb : Blk w H T #[u]) (hn : xs.length ≤ 1048576) (hB : B ≤ w0.heap.size) (hH : w.heap.size = H + 1)
  (h : ∀ g cap w', Grow E t B w' (.slice (some ⟨g, 0, none⟩) (xs.length + 1) cap) (xs ++ [e]) → Below B w w' → Wr w w' (fun b => v.ownBlock = some b) → (v.ownBlock = some g ∨ g = H + 1) → g < w'.heap.size → wpList Tryz.prog ops Q rest (a.put o.dst (.slice (some ⟨g, 0, none⟩) (xs.length + 1) cap)) w') :
  wpList Tryz.prog ops Q (o :: rest) a w := by
 obtain ⟨us, F, fp, h1, h2⟩ := hG
 have h3 := h1.bel hE hw
 have hl := h1.len
 refine list_pushV st t z bytes hu hinfo hby hzc w hgd s x ho 0 v us hs h3.row u hu1 H T hx hb (by omega) (Nat.zero_le _) hH ?_
 intro g cap w' hP
 have hsz := hw.size
 have h4 := OwU.push hE h3 he (fun b hb hf => by have := (hfu b hb).1; have := h1.bd b hf; omega) (fun b hb => (hfu b hb).2) hH hP
 rw [hl]
 obtain ⟨p1, p2, p3, p4⟩ := hP
 refine h g cap w' (Grow.ofL h4 fun b hb => ?_) ?_ (Wr.of_grown p2 fun _ h => h) p3 p4
 ·rcases hb with hb | hb | rfl
  ·exact h2 b hb
  ·have := (hfu b hb).1; omega
  ·rcases p3 with p3 | p3
   ·exact h2 _ (h1.fp_ _ p3)
   ·omega
 ·exact (Below.refl _ _).grown p2 (by omega) (fun k hk => h2 k (h1.fp_ k hk))
def mat (n : Nat) (f : Nat → Nat → Int) : List (List Int) := (List.range n).map fun y => (List.range n).map fun z => f y z
def pm (n : Nat) (f : Nat → Nat → Int) (y z : Nat) : List (List Int) := mat n fun y' z' => if y' < y ∨ (y' = y ∧ z' < z) then f y' z' else 0
theorem pm_row {n : Nat} {f : Nat → Nat → Int} {y z : Nat} (hy : y < n) : (pm n f y z)[y]? = some ((List.range n).map fun z' => if z' < z then f y z' else 0) := by
 unfold pm mat
 simp only [List.getElem?_map, List.getElem?_range hy, Option.map_some]
 congr 1
 apply List.map_congr_left
 intro z' _
 simp
theorem pm_set {n : Nat} {f : Nat → Nat → Int} {y z : Nat} (hy : y < n) (hz : z < n) : (pm n f y z).set y (((List.range n).map fun z' => if z' < z then f y z' else 0).set z (f y z)) = pm n f y (z + 1) := by
 apply List.ext_getElem?
 intro k
 rw [List.getElem?_set]
 by_cases hk : y = k
 ·subst hk
  rw [if_pos rfl, pm_row hy, if_pos (by simp [pm, mat]; exact hy)]
  congr 1
  apply List.ext_getElem?
  intro j
  rw [List.getElem?_set]
  by_cases hj : z = j
  ·subst hj; simp [hz]
  ·rw [if_neg hj]
   by_cases hjn : j < n
   ·simp only [List.getElem?_map, List.getElem?_range hjn, Option.map_some]
    congr 1
    have : (j < z) = (j < z + 1) := by simp; omega
    simp only [this]
   ·simp [hjn]
 ·rw [if_neg hk]
  by_cases hkn : k < n
  ·simp only [pm, mat, List.getElem?_map, List.getElem?_range hkn, Option.map_some]
   congr 1
   apply List.map_congr_left
   intro j _
   have : (k < y ∨ k = y ∧ j < z) = (k < y ∨ k = y ∧ j < z + 1) := by simp; omega
   simp only [this]
  ·simp [pm, mat, hkn]
theorem pm_len (n : Nat) (f : Nat → Nat → Int) (y z : Nat) : (pm n f y z).length = n := by simp [pm, mat]
theorem E2.store {w : World} {v : Value} {n : Nat} {f : Nat → Nat → Int} {y z : Nat} {fp : Nat → Prop} (h : E2 w v (pm n f y z) fp) (hy : y < n) (hz : z < n) (hx : i64ok (f y z)) :
  ∃ g g2 c c2, v = .slice (some ⟨g, 0, none⟩) n c ∧ w.cell? ⟨g, y, none⟩ = some (.slice (some ⟨g2, 0, none⟩) n c2) ∧ (∃ u, w.cell? ⟨g2, z, none⟩ = some (.int .i64 u)) ∧ w.frozen? ⟨g2, z, none⟩ = false ∧ fp g2 ∧
   E2 (w.setCell ⟨g2, z, none⟩ (.int .i64 (f y z))) v (pm n f y (z + 1)) fp := by
 obtain ⟨A, c, e, hs⟩ := E2.sl2 h
 rw [pm_len] at e hs
 obtain ⟨u, fk, hu, he, hfk, hvk, hup⟩ := OwL.focus kp1 h (pm_row (f := f) (z := z) hy)
 obtain ⟨g, rfl, hc⟩ := hu A n c e
 rcases he.own.form with ⟨_, h0⟩ | ⟨g2, cap, e2, _, hg2, _⟩
 ·have := congrArg List.length h0; simp at this; omega
 ·rw [List.length_map, List.length_range] at e2
  subst e2
  have hl : n = ((List.range n).map fun z' => if z' < z then f y z' else 0).length := by simp
  have o1 := he.own.cell hl hz
  have o2 := he.own.frozen hl z
  have o3 := he.own.store hl z (f y z)
  refine ⟨g, g2, c, cap, e, hc, ⟨_, o1⟩, o2, hfk _ (he.fp_ g2 rfl), ?_⟩
  rw [← pm_set hy hz]
  refine hup _ _ ⟨rfl, rfl, rfl, by simp [World.setCell], fun b _ hn => Below.heap_setCell _ _ _ _ (by simp; rintro rfl; exact hn (he.fp_ _ rfl))⟩ ⟨o3, ?_, he.fp_, fun b hb => by have := he.bd b hb; simpa [World.setCell] using this⟩
  intro x hxm
  rcases List.mem_or_eq_of_mem_set hxm with h | rfl
  ·exact he.rng x h
  ·exact hx
theorem E2.later {w : World} {v : Value} {n : Nat} {f : Nat → Nat → Int} {y z : Nat} {fp : Nat → Prop} (h : E2 w v (pm n f y z) fp) (hy : y < n) (hz : z < n) (hx : i64ok (f y z)) :
  ∃ g g2 c c2, v = .slice (some ⟨g, 0, none⟩) n c ∧ g < w.heap.size ∧ g2 < w.heap.size ∧ w.cell? ⟨g, y, none⟩ = some (.slice (some ⟨g2, 0, none⟩) n c2) ∧ (∃ u, w.cell? ⟨g2, z, none⟩ = some (.int .i64 u)) ∧ w.frozen? ⟨g2, z, none⟩ = false ∧ fp g2 ∧
   ∀ w', Below w.heap.size w w' → E2 (w'.setCell ⟨g2, z, none⟩ (.int .i64 (f y z))) v (pm n f y (z + 1)) fp := by
 obtain ⟨g, g2, c, c2, e, h1, h2, h3, h4, _⟩ := E2.store h hy hz hx
 have hg : g < w.heap.size := World.block_lt_of_cell? _ _ h1
 have hg2 : g2 < w.heap.size := by obtain ⟨u, hu⟩ := h2; exact World.block_lt_of_cell? _ _ hu
 refine ⟨g, g2, c, c2, e, hg, hg2, h1, h2, h3, h4, fun w' hb => ?_⟩
 obtain ⟨g', g2', c', c2', e', k1, k2, k3, k4, k5⟩ := E2.store (E2.below h hb) hy hz hx
 rw [e] at e'
 injection e' with e1 _ _
 injection e1 with e1
 injection e1 with e1 _ _
 subst e1
 rw [(hb.cell (p := ⟨g, y, none⟩) hg).trans h1] at k1
 injection k1 with k1
 injection k1 with k1 _ _
 injection k1 with k1
 injection k1 with k1 _ _
 subst k1
 exact k5
end Go.Proofs.YtbpihnpakolooaaGreatDoor
