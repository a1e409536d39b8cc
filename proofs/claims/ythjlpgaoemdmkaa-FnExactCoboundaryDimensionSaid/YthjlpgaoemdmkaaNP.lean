
/- append of one element to a row of the call's own, of any element type that is one cell wide. -/
import Derived.Test.YthjlpgaoemdmkaaNS
namespace Go.Proofs.Ythjlpgaoemdmkaa
open Go Go.RowKit
set_option linter.unusedVariables false

/-- What stands behind an append of the cell y to the row v of the call's own, the element having been laid in block H. -/
def PushV (t : TypeId) (w : World) (B : Nat) (v : Value) (us : List Value) (y : Value) (H g cap : Nat) (w' : World) : Prop :=
  OwV w' B t (.slice (some ⟨g, 0, none⟩) (us.length + 1) cap) (us ++ [y]) ∧ w.grownBy w' v.ownBlock ∧ (v.ownBlock = some g ∨ g = H + 1) ∧ g < w'.heap.size
section
variable {ops : Array Oper} {rest : List Oper} {o : Oper} {a : Act} {K : Act → World → Prop} {Q : Exit → Act → World → Prop}
theorem list_pushV (st t : TypeId) (z : Value) (bytes : Nat) (hu : Try.prog.underlying st = some (.slice t)) (hinfo : (Try.prog.info? t).map (fun i => (i.zero, i.size, i.bytes)) = some (some z, 1, bytes)) (hby : bytes ≤ 24) (hzc : z.cells = #[z])
    (w : World) (hgd : o.guard = none) (s x : Operand)
    (ho : o.op = .call { callee := .builtin .append, args := #[s, x], argTypes := #[st, st] })
    (B : Nat) (v : Value) (us : List Value) (hs : a.eval s = v) (hown : OwV w B t v us) (y : Value) (hy : y.oneCell' = true) (H T : Nat) (hx : a.eval x = .slice (some ⟨H, 0, none⟩) 1 1) (hb : Blk w H T #[y])
    (hn : us.length ≤ 1048576) (hB : B ≤ w.heap.size) (hH : w.heap.size = H + 1)
    (h : ∀ g cap w', PushV t w B v us y H g cap w' → wpList Try.prog ops Q rest (a.put o.dst (.slice (some ⟨g, 0, none⟩) (us.length + 1) cap)) w') :
    wpList Try.prog ops Q (o :: rest) a w := by
  obtain ⟨i0, hi0, hz0, hz1, hz2⟩ := info_parts hinfo
  refine wpList_append_lies w hgd s x _ ho B t i0 _ 1 bytes hu hi0 hz0 hz1 hz2 (by rw [hzc]; rfl) (by omega) v us.length _ hs hown ⟨H, 0, none⟩ 1 1 [y] hx rfl
    (World.news_of_block (cs := #[y]) hb) (by simpa using hy) (by omega) (by unfold maxLen; omega) (by have h1 : (us.length + 1) * bytes ≤ (us.length + 1) * 24 := Nat.mul_le_mul_left _ hby; omega) hB (H + 1) hH ?_
  intro g cap w' h2 h3 h4 h5
  refine h g cap w' ⟨?_, h3, h4, h5⟩
  unfold OwV
  simpa using h2
end
section
variable {t : TypeId} {w w' : World} {B H g cap : Nat} {v : Value} {us : List Value} {y : Value}
theorem PushV.own (h : PushV t w B v us y H g cap w') : OwV w' B t (.slice (some ⟨g, 0, none⟩) (us.length + 1) cap) (us ++ [y]) := h.1
theorem PushV.below (h : PushV t w B v us y H g cap w') (ho : OwV w B t v us) (hB : B ≤ w.heap.size) : Below B w w' :=
  (Below.refl _ _).grown h.2.1 hB (fun k hk => (OwV.lt ho k hk).1)
theorem PushV.wr (h : PushV t w B v us y H g cap w') : Wr w w' (fun b => v.ownBlock = some b) := Wr.of_grown h.2.1 fun _ h => h
theorem OwV.alloc (h : OwV w B t v us) (o : Obj) : OwV (w.alloc o) B t v us := World.ownsRow.alloc h o
theorem OwV.drewN (h : OwV w B t v us) (k : Nat) : OwV (w.drewN k) B t v us := h
theorem OwV.bel (h : OwV w B t v us) (hb : Below w.heap.size w w') : OwV w' B t v us := h.keep fun b hbb => hb.block b (h.lt b hbb).2
theorem OwV.made (w : World) (t : TypeId) (g : Nat) (hg : w.heap.size = g) (hB : B ≤ g) : OwV (w.alloc (.cells #[] t)) B t (.slice (some ⟨g, 0, none⟩) 0 0) [] := by
  subst hg
  exact ⟨rfl, .inr ⟨w.heap.size, 0, #[], rfl, hB, heap_alloc_new w _, Nat.le_refl _, by unfold maxLen; omega, rfl, rfl⟩⟩
/-- An owned row of cells, read. -/
theorem OwV.form (h : OwV w B t v us) : (v = .slice none 0 0 ∧ us = []) ∨ ∃ g cap, v = .slice (some ⟨g, 0, none⟩) us.length cap ∧ B ≤ g ∧ g < w.heap.size ∧ us.length ≤ cap ∧ ∀ k u, us[k]? = some u → w.cell? ⟨g, k, none⟩ = some u := by
  obtain ⟨h1, h2⟩ := h
  rcases h2 with ⟨h2, h3⟩ | ⟨g, cap, cur, hv, hg, hh, hn, hm, hs, hx⟩
  · exact .inl ⟨h2, List.eq_nil_of_length_eq_zero h3⟩
  · have hl : g < w.heap.size := by
      rcases Nat.lt_or_ge g w.heap.size with h | h
      · exact h
      · rw [Array.getElem?_eq_none h] at hh; cases hh
    refine .inr ⟨g, cap, hv, hg, hl, hn, fun k u hu => ?_⟩
    have hk := (List.getElem?_eq_some_iff.1 hu).1
    have h5 : (cur.toList.take (us.length * 1))[k]? = us[k]? := by rw [hx]
    rw [List.getElem?_take, if_pos (by omega), hu] at h5
    simp only [World.cell?, hh]
    simpa using h5
end
/-! ### lists of lists: one more row -/
theorem get_lt' {α : Type} {xs : List α} {k : Nat} {x : α} (h : xs[k]? = some x) : k < xs.length := (List.getElem?_eq_some_iff.1 h).1
/-- An owned list of owned things, its cells named. -/
structure OwU {α : Type} (E : Own α) (t : TypeId) (w : World) (v : Value) (us : List Value) (xs : List α) (fp : Nat → Prop) (F : Nat → Nat → Prop) : Prop where
  row : OwV w 0 t v us
  len : us.length = xs.length
  each : ∀ (k : Nat) u x, us[k]? = some u → xs[k]? = some x → E w u x (F k)
  dis : ∀ j k b, F j b → F k b → j = k
  sub : ∀ k b, F k b → fp b ∧ v.ownBlock ≠ some b
  fp_ : ∀ b, v.ownBlock = some b → fp b
  bd : ∀ b, fp b → b < w.heap.size
theorem OwL.open_ {α : Type} {E : Own α} {t : TypeId} {w : World} {v : Value} {xs : List α} {fp : Nat → Prop} (h : OwL E t w v xs fp) : ∃ us F, OwU E t w v us xs fp F := by
  obtain ⟨us, F, h1, h2, h3, h4, h5⟩ := h.ex
  exact ⟨us, F, h1, h2, h3, h4, h5, h.fp_, h.bd⟩
theorem OwU.close {α : Type} {E : Own α} {t : TypeId} {w : World} {v : Value} {us : List Value} {xs : List α} {fp : Nat → Prop} {F : Nat → Nat → Prop} (h : OwU E t w v us xs fp F) : OwL E t w v xs fp :=
  ⟨⟨us, F, h.row, h.len, h.each, h.dis, h.sub⟩, h.fp_, h.bd⟩
theorem OwU.bel {α : Type} {E : Own α} (hE : Kp E) {t : TypeId} {w w' : World} {v : Value} {us : List Value} {xs : List α} {fp : Nat → Prop} {F : Nat → Nat → Prop} (h : OwU E t w v us xs fp F) (hb : Below w.heap.size w w') : OwU E t w' v us xs fp F :=
  ⟨h.row.bel hb, h.len, fun k u x hu hx => hE _ _ _ _ _ (h.each k u x hu hx) (fun b hf => hb.block b (h.bd b (h.sub k b hf).1)) hb.size, h.dis, h.sub, h.fp_, fun b hf => Nat.lt_of_lt_of_le (h.bd b hf) hb.size⟩
/-- One more element behind an owned list of owned things; w1 is the world in which the element has been laid for the append. -/
theorem OwU.push {α : Type} {E : Own α} (hE : Kp E) {t : TypeId} {w w' : World} {v u : Value} {us : List Value} {xs : List α} {x : α} {fp fu : Nat → Prop} {F : Nat → Nat → Prop} (h : OwU E t w v us xs fp F) (he : E w u x fu)
    (hd : ∀ b, fu b → ¬ fp b) (hfu : ∀ b, fu b → b < w.heap.size) {B H g cap : Nat} (hH : w.heap.size = H + 1) (hP : PushV t w B v us u H g cap w') :
    OwL E t w' (.slice (some ⟨g, 0, none⟩) (xs.length + 1) cap) (xs ++ [x]) (fun b => fp b ∨ fu b ∨ b = g) := by
  obtain ⟨p1, p2, p3, p4⟩ := hP
  have hgx : ∀ b, b < w.heap.size → v.ownBlock ≠ some b → b ≠ g := by
    rintro b hb hn rfl
    rcases p3 with p3 | p3
    · exact hn p3
    · omega
  have hks : ∀ b, fp b → v.ownBlock ≠ some b → w'.heap[b]? = w.heap[b]? := fun b hb hn => p2.block b (h.bd b hb) fun e => hn e.symm
  have hvu : ∀ b, fu b → v.ownBlock ≠ some b := fun b hb e => hd b hb (h.fp_ b e)
  have hku : ∀ b, fu b → w'.heap[b]? = w.heap[b]? := fun b hb => p2.block b (hfu b hb) fun e => hvu b hb e.symm
  rw [← h.len]
  refine ⟨⟨us ++ [u], fun k b => if k < us.length then F k b else k = us.length ∧ fu b, ?_, by simp [h.len], fun k y z hy hz => ?_, fun j k b hj hk => ?_, fun k b hk => ?_⟩, fun b hb => ?_, fun b hb => ?_⟩
  · have : us.length + 1 = (us ++ [u]).length := by simp
    unfold OwV at p1 ⊢
    rw [← this] at p1 ⊢
    exact ⟨p1.1, by
      rcases p1.2 with ⟨h1, _⟩ | ⟨g', c', cur, h1, _, h3⟩
      · cases h1
      · exact .inr ⟨g', c', cur, h1, Nat.zero_le _, h3⟩⟩
  · by_cases hk : k < us.length
    · rw [List.getElem?_append_left hk] at hy
      rw [List.getElem?_append_left (by rw [← h.len]; exact hk)] at hz
      simp only [hk, ↓reduceIte]
      exact hE _ _ _ _ _ (h.each k y z hy hz) (fun b hb => hks b (h.sub k b hb).1 (h.sub k b hb).2) p2.size
    · have hk' : k = us.length := by
        have := get_lt' hy
        simp at this; omega
      subst hk'
      rw [List.getElem?_append_right (Nat.le_refl _), Nat.sub_self] at hy
      rw [List.getElem?_append_right (by rw [h.len]; exact Nat.le_refl _), h.len, Nat.sub_self] at hz
      simp only [List.getElem?_cons_zero, Option.some.injEq] at hy hz
      subst hy; subst hz
      have e : (fun b => if us.length < us.length then F us.length b else us.length = us.length ∧ fu b) = fu := by
        funext b; simp
      have h9 := hE _ w' _ _ _ he hku p2.size
      rw [← e] at h9
      exact h9
  · simp only at hj hk
    split at hj
    · split at hk
      · exact h.dis j k b hj hk
      · exact absurd (h.sub j b hj).1 (hd b hk.2)
    · split at hk
      · exact absurd (h.sub k b hk).1 (hd b hj.2)
      · rw [hj.1, hk.1]
  · simp only at hk
    split at hk
    · have := h.sub k b hk
      exact ⟨.inl this.1, by simp only [Value.ownBlock, ne_eq, Option.some.injEq]; exact fun e => hgx b (h.bd b this.1) this.2 e.symm⟩
    · exact ⟨.inr (.inl hk.2), by simp only [Value.ownBlock, ne_eq, Option.some.injEq]; exact fun e => hgx b (hfu b hk.2) (hvu b hk.2) e.symm⟩
  · simp only [Value.ownBlock, Option.some.injEq] at hb
    exact .inr (.inr hb.symm)
  · have hs := p2.size
    rcases hb with hb | hb | rfl
    · exact Nat.lt_of_lt_of_le (h.bd b hb) hs
    · exact Nat.lt_of_lt_of_le (hfu b hb) hs
    · exact p4
end Go.Proofs.Ythjlpgaoemdmkaa
