
/- Nested slices: reading them as lists of lists (Sl2, Sl3), owning them (OwL), what a write may touch (Wr); no function of the program is walked here. The walks of the laws' own functions on nested slices: szInt64SS, toInt64SS, eqInt64SS, markInt64SS, heldInt64SS, and one level deeper. append of one element to a row of the call's own, of any element type that is one cell wide. Rows of owned things under construction: append of one more. The kinds of a law's arguments and results, in one form: slices of integers, rows of integers. -/
import Derived.Test.YtonehmjoolflfaaGreatDoorBa
import Derived.Deep.OwnRows
import Derived.Test.YtonehmjoolflfaaGreatDoorLa
namespace Go.Proofs.YtonehmjoolflfaaGreatDoor
open Go Go.RowKit
set_option linter.unusedVariables false
set_option linter.unusedSimpArgs false
set_option maxRecDepth 100000

/-! ### Reading -/
/-- The slice '.slice A n c' reads as the list xs, each cell by P; it lies in blocks below B. -/
structure RdL {α : Type} (P : Value → α → Prop) (w : World) (B : Nat) (A : Option Addr) (n c : Nat) (xs : List α) : Prop where
  len : xs.length = n
  cap : n ≤ c
  at_ : 0 < n → ∃ b off, A = some ⟨b, off, none⟩ ∧ b < B ∧ ∀ k x, xs[k]? = some x → ∃ u, w.cell? ⟨b, off + k, none⟩ = some u ∧ P u x
  nil_ : A = none → c = 0
def S1 (w : World) (B : Nat) (u : Value) (xs : List Int) : Prop := ∃ A n c, u = .slice A n c ∧ Sl w B A n c xs
def Sl2 (w : World) (B : Nat) (A : Option Addr) (n c : Nat) (xss : List (List Int)) : Prop := RdL (S1 w B) w B A n c xss
def S2 (w : World) (B : Nat) (u : Value) (xss : List (List Int)) : Prop := ∃ A n c, u = .slice A n c ∧ Sl2 w B A n c xss
def Sl3 (w : World) (B : Nat) (A : Option Addr) (n c : Nat) (x3 : List (List (List Int))) : Prop := RdL (S2 w B) w B A n c x3

section
variable {w w' : World} {B B' : Nat} {A : Option Addr} {n c : Nat}
theorem RdL.keep {α : Type} {P P' : Value → α → Prop} {xs : List α} (h : RdL P w B A n c xs) (hk : ∀ p : Addr, p.block < B → w'.cell? p = w.cell? p) (hB : B ≤ B') (hP : ∀ u x, P u x → P' u x) : RdL P' w' B' A n c xs :=
  ⟨h.len, h.cap, fun hn => by
    obtain ⟨b, off, e, hb, hc⟩ := h.at_ hn
    refine ⟨b, off, e, by omega, fun k x hx => ?_⟩
    obtain ⟨u, h1, h2⟩ := hc k x hx
    exact ⟨u, (hk _ hb).trans h1, hP _ _ h2⟩, h.nil_⟩
theorem Sl2.keep {xss : List (List Int)} (h : Sl2 w B A n c xss) (hk : ∀ p : Addr, p.block < B → w'.cell? p = w.cell? p) (hB : B ≤ B') : Sl2 w' B' A n c xss :=
  RdL.keep h hk hB fun u x ⟨A, n, c, e, hs⟩ => ⟨A, n, c, e, (hs.keep hk).more hB⟩
theorem Sl3.keep {x3 : List (List (List Int))} (h : Sl3 w B A n c x3) (hk : ∀ p : Addr, p.block < B → w'.cell? p = w.cell? p) (hB : B ≤ B') : Sl3 w' B' A n c x3 :=
  RdL.keep h hk hB fun u x ⟨A, n, c, e, hs⟩ => ⟨A, n, c, e, hs.keep hk hB⟩
theorem Sl2.below {xss : List (List Int)} (h : Sl2 w B A n c xss) (hb : Below B w w') : Sl2 w' B A n c xss := h.keep (fun _ hp => hb.cell hp) (Nat.le_refl _)
theorem Sl3.below {x3 : List (List (List Int))} (h : Sl3 w B A n c x3) (hb : Below B w w') : Sl3 w' B A n c x3 := h.keep (fun _ hp => hb.cell hp) (Nat.le_refl _)
theorem Sl2.more {xss : List (List Int)} (h : Sl2 w B A n c xss) (hB : B ≤ B') : Sl2 w B' A n c xss := h.keep (fun _ _ => rfl) hB
theorem Sl3.more {x3 : List (List (List Int))} (h : Sl3 w B A n c x3) (hB : B ≤ B') : Sl3 w B' A n c x3 := h.keep (fun _ _ => rfl) hB
theorem Sl2.drewN {xss : List (List Int)} (h : Sl2 w B A n c xss) (k : Nat) : Sl2 (w.drewN k) B A n c xss := h.keep (fun _ _ => rfl) (Nat.le_refl _)
theorem Sl3.drewN {x3 : List (List (List Int))} (h : Sl3 w B A n c x3) (k : Nat) : Sl3 (w.drewN k) B A n c x3 := h.keep (fun _ _ => rfl) (Nat.le_refl _)
theorem Sl2.row {b off k : Nat} {xss : List (List Int)} {xs : List Int} (h : Sl2 w B (some ⟨b, off, none⟩) n c xss) (hx : xss[k]? = some xs) :
    ∃ A' n' c', w.cell? ⟨b, off + k, none⟩ = some (.slice A' n' c') ∧ Sl w B A' n' c' xs := by
  have hk := (List.getElem?_eq_some_iff.1 hx).1
  obtain ⟨b', off', e, hb, hc⟩ := h.at_ (by rw [← h.len]; omega)
  cases e
  obtain ⟨u, h1, A', n', c', rfl, hs⟩ := hc k xs hx
  exact ⟨A', n', c', h1, hs⟩
theorem Sl3.row {b off k : Nat} {x3 : List (List (List Int))} {xs : List (List Int)} (h : Sl3 w B (some ⟨b, off, none⟩) n c x3) (hx : x3[k]? = some xs) :
    ∃ A' n' c', w.cell? ⟨b, off + k, none⟩ = some (.slice A' n' c') ∧ Sl2 w B A' n' c' xs := by
  have hk := (List.getElem?_eq_some_iff.1 hx).1
  obtain ⟨b', off', e, hb, hc⟩ := h.at_ (by rw [← h.len]; omega)
  cases e
  obtain ⟨u, h1, A', n', c', rfl, hs⟩ := hc k xs hx
  exact ⟨A', n', c', h1, hs⟩
theorem Sl.row {b off k : Nat} {xs : List Int} (h : Sl w B (some ⟨b, off, none⟩) n c xs) (hk : k < n) : w.cell? ⟨b, off + k, none⟩ = some (.int .i64 (gi xs k)) := by
  obtain ⟨b', off', e, hb, hc⟩ := h.at_ (by omega)
  cases e
  exact hc k hk
end

/-! ### Writing -/
/-- Only the blocks of fp, and new ones, are not as they were. -/
structure Wr (w w' : World) (fp : Nat → Prop) : Prop where
  os : w'.os = w.os
  tape : w'.tape = w.tape
  output : w'.output = w.output
  size : w.heap.size ≤ w'.heap.size
  block : ∀ b, b < w.heap.size → ¬ fp b → w'.heap[b]? = w.heap[b]?
section
variable {w w' w'' : World} {fp fq : Nat → Prop} {B : Nat}
theorem Wr.refl (w : World) (fp : Nat → Prop) : Wr w w fp := ⟨rfl, rfl, rfl, Nat.le_refl _, fun _ _ _ => rfl⟩
theorem Wr.trans (h : Wr w w' fp) (k : Wr w' w'' fp) : Wr w w'' fp :=
  ⟨k.os.trans h.os, k.tape.trans h.tape, k.output.trans h.output, Nat.le_trans h.size k.size, fun b hb hn => (k.block b (Nat.lt_of_lt_of_le hb h.size) hn).trans (h.block b hb hn)⟩
theorem Wr.mono (h : Wr w w' fp) (hf : ∀ b, fp b → fq b) : Wr w w' fq := ⟨h.os, h.tape, h.output, h.size, fun b hb hn => h.block b hb fun hf' => hn (hf b hf')⟩
theorem Wr.below (h : Wr w w' fp) (hB : ∀ b, fp b → B ≤ b) (hs : B ≤ w.heap.size) : Below B w w' :=
  ⟨h.os, h.tape, h.output, h.size, fun b hb => h.block b (by omega) fun hf => by have := hB b hf; omega⟩
theorem Wr.of_below (h : Below w.heap.size w w') : Wr w w' fp := ⟨h.os, h.tape, h.output, h.size, fun b hb _ => h.block b hb⟩
theorem Wr.of_grown {row : Option Nat} (h : w.grownBy w' row) (hr : ∀ b, row = some b → fp b) : Wr w w' fp :=
  ⟨h.os, h.tape, h.output, h.size, fun b hb hn => h.block b hb fun e => hn (hr b e.symm)⟩
theorem Wr.drewN (h : Wr w w' fp) (k : Nat) : Wr w (w'.drewN k) fp := ⟨h.os, h.tape, h.output, h.size, h.block⟩
theorem Wr.drew (h : Wr w w' fp) : Wr w w'.drew fp := ⟨h.os, h.tape, h.output, h.size, h.block⟩
theorem Wr.own (h : Wr w w' fp) {B : Nat} {v : Value} {xs : List Int} (ho : Ow w B v xs) (hf : ∀ b, v.ownBlock = some b → ¬ fp b) : Ow w' B v xs := by
  obtain ⟨h1, h2⟩ := ho
  refine ⟨h1, ?_⟩
  rcases h2 with h2 | ⟨g, cap, cur, rfl, hg, hh, h3⟩
  · exact .inl h2
  · have hl : g < w.heap.size := by
      rcases Nat.lt_or_ge g w.heap.size with h | h
      · exact h
      · rw [Array.getElem?_eq_none h] at hh; cases hh
    exact .inr ⟨g, cap, cur, rfl, hg, (h.block g hl (hf g rfl)).trans hh, h3⟩
theorem Wr.blk (h : Wr w w' fp) {g : Nat} {t : TypeId} {cs : Array Value} (hb : Blk w g t cs) (hf : ¬ fp g) : Blk w' g t cs := (h.block g hb.lt hf).trans hb
end

/-! ### Owning -/
/-- The slice value v, nil or the call's own, holds just the cells us of type t. -/
def OwV (w : World) (B : Nat) (t : TypeId) (v : Value) (us : List Value) : Prop := w.ownsRow B t 1 v us.length us
abbrev Own (α : Type) := World → Value → α → (Nat → Prop) → Prop
/-- What is owned stays where its blocks stay. -/
def Kp {α : Type} (E : Own α) : Prop := ∀ w w' v x fp, E w v x fp → (∀ b, fp b → w'.heap[b]? = w.heap[b]?) → w.heap.size ≤ w'.heap.size → E w' v x fp
/-- A row of numbers, owned; its block is one of fp. -/
structure E1 (w : World) (v : Value) (xs : List Int) (fp : Nat → Prop) : Prop where
  own : Ow w 0 v xs
  rng : ∀ x ∈ xs, i64ok x
  fp_ : ∀ b, v.ownBlock = some b → fp b
  bd : ∀ b, fp b → b < w.heap.size
/-- A row of slices (cells of type t), each owned by E in blocks of its own. -/
structure OwL {α : Type} (E : Own α) (t : TypeId) (w : World) (v : Value) (xs : List α) (fp : Nat → Prop) : Prop where
  ex : ∃ (us : List Value) (F : Nat → Nat → Prop), OwV w 0 t v us ∧ us.length = xs.length ∧ (∀ k u x, us[k]? = some u → xs[k]? = some x → E w u x (F k)) ∧ (∀ j k b, F j b → F k b → j = k) ∧ (∀ k b, F k b → fp b ∧ v.ownBlock ≠ some b)
  fp_ : ∀ b, v.ownBlock = some b → fp b
  bd : ∀ b, fp b → b < w.heap.size
def E2 : Own (List (List Int)) := OwL E1 24
def E3 : Own (List (List (List Int))) := OwL E2 50

theorem OwV.keep {w w' : World} {B : Nat} {t : TypeId} {v : Value} {us : List Value} (h : OwV w B t v us) (hk : ∀ b, v.ownBlock = some b → w'.heap[b]? = w.heap[b]?) : OwV w' B t v us := by
  obtain ⟨h1, h2⟩ := h
  refine ⟨h1, ?_⟩
  rcases h2 with h2 | ⟨g, cap, cur, rfl, hg, hh, h3⟩
  · exact .inl h2
  · exact .inr ⟨g, cap, cur, rfl, hg, (hk g rfl).trans hh, h3⟩
theorem kp1 : Kp E1 := by
  intro w w' v xs fp h hk hs
  refine ⟨?_, h.rng, h.fp_, fun b hb => by have := h.bd b hb; omega⟩
  have h1 : OwV w 0 2 v (xs.map (Value.int .i64)) := by have := h.own; unfold Ow at this; unfold OwV; simpa using this
  have h2 := h1.keep (w' := w') fun b hb => hk b (h.fp_ b hb)
  unfold OwV at h2; unfold Ow; simpa using h2
theorem kpL {α : Type} {E : Own α} {t : TypeId} (hE : Kp E) : Kp (OwL E t) := by
  intro w w' v xs fp h hk hs
  obtain ⟨us, F, hv, hl, he, hd, hf⟩ := h.ex
  exact ⟨⟨us, F, hv.keep fun b hb => hk b (h.fp_ b hb), hl, fun k u x hu hx => hE _ _ _ _ _ (he k u x hu hx) (fun b hb => hk b (hf k b hb).1) hs, hd, hf⟩, h.fp_, fun b hb => by have := h.bd b hb; omega⟩
theorem kp2 : Kp E2 := kpL kp1

section
variable {w w' : World} {v : Value} {fp fq : Nat → Prop}
theorem E1.sl {xs : List Int} (h : E1 w v xs fp) : ∃ A c, v = .slice A xs.length c ∧ Sl w w.heap.size A xs.length c xs := h.own.sl h.rng
theorem E1.s1 {xs : List Int} (h : E1 w v xs fp) : S1 w w.heap.size v xs := by obtain ⟨A, c, e, hs⟩ := h.sl; exact ⟨A, _, c, e, hs⟩
theorem OwV.lt {B : Nat} {t : TypeId} {us : List Value} (h : OwV w B t v us) : ∀ k, v.ownBlock = some k → B ≤ k ∧ k < w.heap.size := World.ownsRow.lt h
theorem OwL.rd {α : Type} {E : Own α} {t : TypeId} {xs : List α} {P : Value → α → Prop} (h : OwL E t w v xs fp) (hP : ∀ u x fp, E w u x fp → P u x) : ∃ A c, v = .slice A xs.length c ∧ RdL P w w.heap.size A xs.length c xs := by
  obtain ⟨us, F, hv, hl, he, _, _⟩ := h.ex
  rcases hv.2 with ⟨rfl, h3⟩ | ⟨g, cap, cur, rfl, hg, hh, hn, hm, hs, hx⟩
  · have : xs = [] := List.eq_nil_of_length_eq_zero (by omega)
    subst this
    exact ⟨none, 0, rfl, rfl, by simp, fun h => absurd h (by simp), fun _ => rfl⟩
  · rw [← hl]
    refine ⟨some ⟨g, 0, none⟩, cap, rfl, hl.symm, hn, fun hpos => ⟨g, 0, rfl, ?_, fun k x hk => ?_⟩, fun h => by cases h⟩
    · rcases Nat.lt_or_ge g w.heap.size with h | h
      · exact h
      · rw [Array.getElem?_eq_none h] at hh; cases hh
    · have hkl := (List.getElem?_eq_some_iff.1 hk).1
      have hu : ∃ u, us[k]? = some u := ⟨us[k]'(by omega), List.getElem?_eq_getElem _⟩
      obtain ⟨u, hu⟩ := hu
      refine ⟨u, ?_, hP _ _ _ (he k u x hu hk)⟩
      have h5 : (cur.toList.take (us.length * 1))[k]? = us[k]? := by rw [hx]
      rw [List.getElem?_take, if_pos (by omega), hu] at h5
      simp only [World.cell?, hh, Nat.zero_add]
      simpa using h5
theorem E2.sl2 {xs : List (List Int)} (h : E2 w v xs fp) : ∃ A c, v = .slice A xs.length c ∧ Sl2 w w.heap.size A xs.length c xs := OwL.rd h fun _ _ _ h => h.s1
theorem E2.s2 {xs : List (List Int)} (h : E2 w v xs fp) : S2 w w.heap.size v xs := by obtain ⟨A, c, e, hs⟩ := h.sl2; exact ⟨A, _, c, e, hs⟩
theorem E3.sl3 {xs : List (List (List Int))} (h : E3 w v xs fp) : ∃ A c, v = .slice A xs.length c ∧ Sl3 w w.heap.size A xs.length c xs := OwL.rd h fun _ _ _ h => E2.s2 h
theorem E1.mono {xs : List Int} (h : E1 w v xs fp) (hf : ∀ b, fp b → fq b) (hb : ∀ b, fq b → b < w.heap.size) : E1 w v xs fq := ⟨h.own, h.rng, fun b hb => hf b (h.fp_ b hb), hb⟩
theorem OwL.mono {α : Type} {E : Own α} {t : TypeId} {xs : List α} (h : OwL E t w v xs fp) (hf : ∀ b, fp b → fq b) (hb : ∀ b, fq b → b < w.heap.size) : OwL E t w v xs fq := by
  obtain ⟨us, F, h1, h2, h3, h4, h5⟩ := h.ex
  exact ⟨⟨us, F, h1, h2, h3, h4, fun k b hb => ⟨hf b (h5 k b hb).1, (h5 k b hb).2⟩⟩, fun b hb => hf b (h.fp_ b hb), hb⟩
/-- One element in hand: it may be turned where it lies. -/
theorem OwL.focus {α : Type} {E : Own α} {t : TypeId} {xs : List α} (hE : Kp E) (h : OwL E t w v xs fp) {k : Nat} {x : α} (hx : xs[k]? = some x) :
    ∃ u fk, (∀ A n c, v = .slice A n c → ∃ g, A = some ⟨g, 0, none⟩ ∧ w.cell? ⟨g, k, none⟩ = some u) ∧ E w u x fk ∧ (∀ b, fk b → fp b) ∧ (∀ b, v.ownBlock = some b → ¬ fk b) ∧
      ∀ w' x', Wr w w' fk → E w' u x' fk → OwL E t w' v (xs.set k x') fp := by
  obtain ⟨us, F, hv, hl, he, hd, hf⟩ := h.ex
  have hkl := (List.getElem?_eq_some_iff.1 hx).1
  obtain ⟨u, hu⟩ : ∃ u, us[k]? = some u := ⟨us[k]'(by omega), List.getElem?_eq_getElem _⟩
  refine ⟨u, F k, fun A n c e => ?_, he k u x hu hx, fun b hb => (hf k b hb).1, fun b hb hn => (hf k b hn).2 hb, fun w' x' hw hx' => ?_⟩
  · rcases hv.2 with ⟨h2, h3⟩ | ⟨g, cap, cur, h2, hg, hh, hn, hm, hs, hxx⟩
    · omega
    · rw [h2] at e
      cases e
      refine ⟨g, rfl, ?_⟩
      have h5 : (cur.toList.take (us.length * 1))[k]? = us[k]? := by rw [hxx]
      rw [List.getElem?_take, if_pos (by omega), hu] at h5
      simp only [World.cell?, hh]
      simpa using h5
  · refine ⟨⟨us, F, hv.keep fun b hb => hw.block b (h.bd b (h.fp_ b hb)) fun hn => (hf k b hn).2 hb, by rw [hl, List.length_set], fun j u' y hu' hy => ?_, hd, hf⟩, h.fp_, fun b hb => Nat.lt_of_lt_of_le (h.bd b hb) hw.size⟩
    by_cases e : k = j
    · subst e
      rw [List.getElem?_set_self (by omega)] at hy
      rw [hu] at hu'
      injection hu' with hu'; injection hy with hy
      subst hu'; subst hy
      exact hx'
    · rw [List.getElem?_set_ne e] at hy
      have h6 := he j u' y hu' hy
      exact hE _ _ _ _ _ h6 (fun b hb => hw.block b (h.bd b (hf j b hb).1) fun hn => e (hd k j b hn hb)) hw.size
theorem E1.below {xs : List Int} (h : E1 w v xs fp) (hb : Below w.heap.size w w') : E1 w' v xs fp := kp1 _ _ _ _ _ h (fun b hf => hb.block b (h.bd b hf)) hb.size
theorem OwL.bel {α : Type} {E : Own α} {t : TypeId} (hE : Kp E) {xs : List α} (h : OwL E t w v xs fp) (hb : Below w.heap.size w w') : OwL E t w' v xs fp := kpL hE _ _ _ _ _ h (fun b hf => hb.block b (h.bd b hf)) hb.size
theorem E2.below {xs : List (List Int)} (h : E2 w v xs fp) (hb : Below w.heap.size w w') : E2 w' v xs fp := OwL.bel kp1 h hb
theorem E3.below {xs : List (List (List Int))} (h : E3 w v xs fp) (hb : Below w.heap.size w w') : E3 w' v xs fp := OwL.bel kp2 h hb
end
/-- It returned something of its own that holds x; what lay before lies as it lay. -/
def MkE {α : Type} (E : Own α) (w : World) (x : α) (e : Ending) (w' : World) : Prop := ∃ v, e = .returned v ∧ E w' v x (fun b => w.heap.size ≤ b ∧ b < w'.heap.size) ∧ Below w.heap.size w w'

/-! ### A made row that is filled -/
/-- Block g is a row of n cells of type t, the first k of which own the first elements of xs, in blocks behind g. -/
structure Part {α : Type} (E : Own α) (t : TypeId) (g n k : Nat) (xs : List α) (w : World) : Prop where
  ex : ∃ (cs : Array Value) (F : Nat → Nat → Prop), Blk w g t cs ∧ cs.size = n ∧ (∀ j u x, j < k → cs[j]? = some u → xs[j]? = some x → E w u x (F j)) ∧ (∀ j i b, F j b → F i b → j = i) ∧ (∀ j b, F j b → g < b ∧ b < w.heap.size ∧ j < k)
theorem Part.start {α : Type} {E : Own α} {t : TypeId} {g n : Nat} {xs : List α} {w : World} {cs : Array Value} (hb : Blk w g t cs) (hn : cs.size = n) : Part E t g n 0 xs w :=
  ⟨cs, fun _ _ => False, hb, hn, fun j _ _ h => absurd h (Nat.not_lt_zero _), fun _ _ _ h => h.elim, fun _ _ h => h.elim⟩
theorem Part.below {α : Type} {E : Own α} (hE : Kp E) {t : TypeId} {g n k : Nat} {xs : List α} {w w' : World} (h : Part E t g n k xs w) (hb : Below w.heap.size w w') : Part E t g n k xs w' := by
  obtain ⟨cs, F, h1, h2, h3, h4, h5⟩ := h.ex
  exact ⟨cs, F, h1.all hb, h2, fun j u x hj hu hx => hE _ _ _ _ _ (h3 j u x hj hu hx) (fun b hf => hb.block b (h5 j b hf).2.1) hb.size, h4, fun j b hf => by have := h5 j b hf; have := hb.size; omega⟩
/-- The row's block, read. -/
theorem Part.blk {α : Type} {E : Own α} {t : TypeId} {g n k : Nat} {xs : List α} {w : World} (h : Part E t g n k xs w) : ∃ cs, Blk w g t cs ∧ cs.size = n := by
  obtain ⟨cs, F, h1, h2, _⟩ := h.ex
  exact ⟨cs, h1, h2⟩
theorem Part.step {α : Type} {E : Own α} (hE : Kp E) {t : TypeId} {g n k : Nat} {xs : List α} {x : α} {w w' : World} {v : Value} (h : Part E t g n k xs w) (hk : k < n) (hx : xs[k]? = some x) (hg : g < w.heap.size)
    (he : E w' v x (fun b => w.heap.size ≤ b ∧ b < w'.heap.size)) (hb : Below w.heap.size w w') : Part E t g n (k + 1) xs (w'.setCell ⟨g, k, none⟩ v) := by
  obtain ⟨cs, F, h1, h2, h3, h4, h5⟩ := h.ex
  have hs := hb.size
  have hsz : (w'.setCell ⟨g, k, none⟩ v).heap.size = w'.heap.size := by simp [World.setCell]
  have hst : ∀ b, g < b → (w'.setCell ⟨g, k, none⟩ v).heap[b]? = w'.heap[b]? := fun b hgb => Below.heap_setCell _ _ _ _ (by simp; omega)
  refine ⟨cs.setIfInBounds k v, fun j b => if j = k then w.heap.size ≤ b ∧ b < w'.heap.size else F j b, (h1.all hb).store k v, by simpa using h2, fun j u y hj hu hy => ?_, fun j i b hj hi => ?_, fun j b hj => ?_⟩
  · by_cases e : j = k
    · subst e
      simp only [↓reduceIte]
      rw [hx] at hy; injection hy with hy; subst hy
      rw [Array.getElem?_setIfInBounds, if_pos rfl, if_pos (by omega)] at hu
      injection hu with hu; subst hu
      exact hE _ _ _ _ _ he (fun b hb' => hst b (by omega)) (by rw [hsz]; exact Nat.le_refl _)
    · simp only [e, ↓reduceIte]
      rw [Array.getElem?_setIfInBounds, if_neg (fun h => e h.symm)] at hu
      refine hE _ _ _ _ _ (h3 j u y (by omega) hu hy) (fun b hb' => ?_) (by rw [hsz]; exact hs)
      have h6 := h5 j b hb'
      rw [hst b h6.1]; exact hb.block b h6.2.1
  · simp only at hj hi
    by_cases e : j = k
    · by_cases e' : i = k
      · omega
      · rw [if_pos e] at hj; rw [if_neg e'] at hi
        have := h5 i b hi; omega
    · by_cases e' : i = k
      · rw [if_neg e] at hj; rw [if_pos e'] at hi
        have := h5 j b hj; omega
      · rw [if_neg e] at hj; rw [if_neg e'] at hi
        exact h4 j i b hj hi
  · rw [hsz]
    simp only at hj
    by_cases e : j = k
    · rw [if_pos e] at hj; omega
    · rw [if_neg e] at hj
      have := h5 j b hj; omega
theorem Part.done {α : Type} {E : Own α} {t : TypeId} {g : Nat} {xs : List α} {w : World} (h : Part E t g xs.length xs.length xs w) (hm : xs.length ≤ maxLen) :
    OwL E t w (.slice (some ⟨g, 0, none⟩) xs.length xs.length) xs (fun b => g ≤ b ∧ b < w.heap.size) := by
  obtain ⟨cs, F, h1, h2, h3, h4, h5⟩ := h.ex
  refine ⟨⟨cs.toList, F, ?_, by simpa using h2, fun k u x hu hx => ?_, h4, fun k b hf => ?_⟩, fun b hb => ?_, fun b hb => hb.2⟩
  · refine ⟨by simp, .inr ⟨g, xs.length, cs, by simp [h2], Nat.zero_le _, h1, by simp [h2], hm, by simp [h2], List.take_of_length_le (by simp)⟩⟩
  · have hkl := (List.getElem?_eq_some_iff.1 hx).1
    exact h3 k u x hkl (by simpa using hu) hx
  · have := h5 k b hf
    exact ⟨by omega, by simp [Value.ownBlock]; omega⟩
  · have : g = b := by simpa [Value.ownBlock] using hb
    subst this
    exact ⟨Nat.le_refl _, h1.lt⟩

theorem rows_info : (Tryz.prog.info? 24).map (fun i => (i.zero, i.size, i.bytes)) = some (some (.slice none 0 0), 1, 24) := by kernel_rfl

/-! ### plain -/
section
variable {α : Type}
theorem get_at {xs : List α} {k : Nat} (h : k < xs.length) : ∃ x, xs[k]? = some x := ⟨xs[k], List.getElem?_eq_getElem h⟩
end


/-! ### walks -/

/-- What stands behind an append of the cell y to the row v of the call's own, the element having been laid in block H. -/
def PushV (t : TypeId) (w : World) (B : Nat) (v : Value) (us : List Value) (y : Value) (H g cap : Nat) (w' : World) : Prop :=
  OwV w' B t (.slice (some ⟨g, 0, none⟩) (us.length + 1) cap) (us ++ [y]) ∧ w.grownBy w' v.ownBlock ∧ (v.ownBlock = some g ∨ g = H + 1) ∧ g < w'.heap.size
section
variable {ops : Array Oper} {rest : List Oper} {o : Oper} {a : Act} {K : Act → World → Prop} {Q : Exit → Act → World → Prop}
theorem list_pushV (st t : TypeId) (z : Value) (bytes : Nat) (hu : Tryz.prog.underlying st = some (.slice t)) (hinfo : (Tryz.prog.info? t).map (fun i => (i.zero, i.size, i.bytes)) = some (some z, 1, bytes)) (hby : bytes ≤ 24) (hzc : z.cells = #[z])
    (w : World) (hgd : o.guard = none) (s x : Operand)
    (ho : o.op = .call { callee := .builtin .append, args := #[s, x], argTypes := #[st, st] })
    (B : Nat) (v : Value) (us : List Value) (hs : a.eval s = v) (hown : OwV w B t v us) (y : Value) (hy : y.oneCell' = true) (H T : Nat) (hx : a.eval x = .slice (some ⟨H, 0, none⟩) 1 1) (hb : Blk w H T #[y])
    (hn : us.length ≤ 1073741824) (hB : B ≤ w.heap.size) (hH : w.heap.size = H + 1)
    (h : ∀ g cap w', PushV t w B v us y H g cap w' → wpList Tryz.prog ops Q rest (a.put o.dst (.slice (some ⟨g, 0, none⟩) (us.length + 1) cap)) w') :
    wpList Tryz.prog ops Q (o :: rest) a w := by
  obtain ⟨i0, hi0, hz0, hz1, hz2⟩ := info_parts hinfo
  refine wpList_append_lies w hgd s x _ ho B t i0 _ 1 bytes hu hi0 hz0 hz1 hz2 (by rw [hzc]; rfl) (by omega) v us.length _ hs hown ⟨H, 0, none⟩ 1 1 [y] hx rfl
    (World.news_of_block (cs := #[y]) hb) (by simpa using hy) (by omega) (by unfold maxLen; omega) (by have h1 : (us.length + 1) * bytes ≤ (us.length + 1) * 24 := Nat.mul_le_mul_left _ hby; omega) hB (H + 1) hH ?_
  intro g cap w' h2 h3 h4 h5
  refine h g cap w' ⟨?_, h3, h4, h5⟩
  unfold OwV
  simpa using h2
end
section
variable {t : TypeId} {w w' : World} {B H g cap : Nat} {v : Value} {us : List Value} {y : Value}
theorem PushV.own (h : PushV t w B v us y H g cap w') : OwV w' B t (.slice (some ⟨g, 0, none⟩) (us.length + 1) cap) (us ++ [y]) := h.1
theorem PushV.below (h : PushV t w B v us y H g cap w') (ho : OwV w B t v us) (hB : B ≤ w.heap.size) : Below B w w' :=
  (Below.refl _ _).grown h.2.1 hB (fun k hk => (OwV.lt ho k hk).1)
theorem PushV.wr (h : PushV t w B v us y H g cap w') : Wr w w' (fun b => v.ownBlock = some b) := Wr.of_grown h.2.1 fun _ h => h
theorem OwV.alloc (h : OwV w B t v us) (o : Obj) : OwV (w.alloc o) B t v us := World.ownsRow.alloc h o
theorem OwV.drewN (h : OwV w B t v us) (k : Nat) : OwV (w.drewN k) B t v us := h
theorem OwV.bel (h : OwV w B t v us) (hb : Below w.heap.size w w') : OwV w' B t v us := h.keep fun b hbb => hb.block b (h.lt b hbb).2
theorem OwV.made (w : World) (t : TypeId) (g : Nat) (hg : w.heap.size = g) (hB : B ≤ g) : OwV (w.alloc (.cells #[] t)) B t (.slice (some ⟨g, 0, none⟩) 0 0) [] := by
  subst hg
  exact ⟨rfl, .inr ⟨w.heap.size, 0, #[], rfl, hB, heap_alloc_new w _, Nat.le_refl _, by unfold maxLen; omega, rfl, rfl⟩⟩
/-- An owned row of cells, read. -/
theorem OwV.form (h : OwV w B t v us) : (v = .slice none 0 0 ∧ us = []) ∨ ∃ g cap, v = .slice (some ⟨g, 0, none⟩) us.length cap ∧ B ≤ g ∧ g < w.heap.size ∧ us.length ≤ cap ∧ ∀ k u, us[k]? = some u → w.cell? ⟨g, k, none⟩ = some u := by
  obtain ⟨h1, h2⟩ := h
  rcases h2 with ⟨h2, h3⟩ | ⟨g, cap, cur, hv, hg, hh, hn, hm, hs, hx⟩
  · exact .inl ⟨h2, List.eq_nil_of_length_eq_zero h3⟩
  · have hl : g < w.heap.size := by
      rcases Nat.lt_or_ge g w.heap.size with h | h
      · exact h
      · rw [Array.getElem?_eq_none h] at hh; cases hh
    refine .inr ⟨g, cap, hv, hg, hl, hn, fun k u hu => ?_⟩
    have hk := (List.getElem?_eq_some_iff.1 hu).1
    have h5 : (cur.toList.take (us.length * 1))[k]? = us[k]? := by rw [hx]
    rw [List.getElem?_take, if_pos (by omega), hu] at h5
    simp only [World.cell?, hh]
    simpa using h5
end
/-! ### lists of lists: one more row -/
theorem get_lt' {α : Type} {xs : List α} {k : Nat} {x : α} (h : xs[k]? = some x) : k < xs.length := (List.getElem?_eq_some_iff.1 h).1
/-- An owned list of owned things, its cells named. -/
structure OwU {α : Type} (E : Own α) (t : TypeId) (w : World) (v : Value) (us : List Value) (xs : List α) (fp : Nat → Prop) (F : Nat → Nat → Prop) : Prop where
  row : OwV w 0 t v us
  len : us.length = xs.length
  each : ∀ (k : Nat) u x, us[k]? = some u → xs[k]? = some x → E w u x (F k)
  dis : ∀ j k b, F j b → F k b → j = k
  sub : ∀ k b, F k b → fp b ∧ v.ownBlock ≠ some b
  fp_ : ∀ b, v.ownBlock = some b → fp b
  bd : ∀ b, fp b → b < w.heap.size
theorem OwL.open_ {α : Type} {E : Own α} {t : TypeId} {w : World} {v : Value} {xs : List α} {fp : Nat → Prop} (h : OwL E t w v xs fp) : ∃ us F, OwU E t w v us xs fp F := by
  obtain ⟨us, F, h1, h2, h3, h4, h5⟩ := h.ex
  exact ⟨us, F, h1, h2, h3, h4, h5, h.fp_, h.bd⟩
theorem OwU.close {α : Type} {E : Own α} {t : TypeId} {w : World} {v : Value} {us : List Value} {xs : List α} {fp : Nat → Prop} {F : Nat → Nat → Prop} (h : OwU E t w v us xs fp F) : OwL E t w v xs fp :=
  ⟨⟨us, F, h.row, h.len, h.each, h.dis, h.sub⟩, h.fp_, h.bd⟩
theorem OwU.bel {α : Type} {E : Own α} (hE : Kp E) {t : TypeId} {w w' : World} {v : Value} {us : List Value} {xs : List α} {fp : Nat → Prop} {F : Nat → Nat → Prop} (h : OwU E t w v us xs fp F) (hb : Below w.heap.size w w') : OwU E t w' v us xs fp F :=
  ⟨h.row.bel hb, h.len, fun k u x hu hx => hE _ _ _ _ _ (h.each k u x hu hx) (fun b hf => hb.block b (h.bd b (h.sub k b hf).1)) hb.size, h.dis, h.sub, h.fp_, fun b hf => Nat.lt_of_lt_of_le (h.bd b hf) hb.size⟩
/-- One more element behind an owned list of owned things; w1 is the world in which the element has been laid for the append. -/
theorem OwU.push {α : Type} {E : Own α} (hE : Kp E) {t : TypeId} {w w' : World} {v u : Value} {us : List Value} {xs : List α} {x : α} {fp fu : Nat → Prop} {F : Nat → Nat → Prop} (h : OwU E t w v us xs fp F) (he : E w u x fu)
    (hd : ∀ b, fu b → ¬ fp b) (hfu : ∀ b, fu b → b < w.heap.size) {B H g cap : Nat} (hH : w.heap.size = H + 1) (hP : PushV t w B v us u H g cap w') :
    OwL E t w' (.slice (some ⟨g, 0, none⟩) (xs.length + 1) cap) (xs ++ [x]) (fun b => fp b ∨ fu b ∨ b = g) := by
  obtain ⟨p1, p2, p3, p4⟩ := hP
  have hgx : ∀ b, b < w.heap.size → v.ownBlock ≠ some b → b ≠ g := by
    rintro b hb hn rfl
    rcases p3 with p3 | p3
    · exact hn p3
    · omega
  have hks : ∀ b, fp b → v.ownBlock ≠ some b → w'.heap[b]? = w.heap[b]? := fun b hb hn => p2.block b (h.bd b hb) fun e => hn e.symm
  have hvu : ∀ b, fu b → v.ownBlock ≠ some b := fun b hb e => hd b hb (h.fp_ b e)
  have hku : ∀ b, fu b → w'.heap[b]? = w.heap[b]? := fun b hb => p2.block b (hfu b hb) fun e => hvu b hb e.symm
  rw [← h.len]
  refine ⟨⟨us ++ [u], fun k b => if k < us.length then F k b else k = us.length ∧ fu b, ?_, by simp [h.len], fun k y z hy hz => ?_, fun j k b hj hk => ?_, fun k b hk => ?_⟩, fun b hb => ?_, fun b hb => ?_⟩
  · have : us.length + 1 = (us ++ [u]).length := by simp
    unfold OwV at p1 ⊢
    rw [← this] at p1 ⊢
    exact ⟨p1.1, by
      rcases p1.2 with ⟨h1, _⟩ | ⟨g', c', cur, h1, _, h3⟩
      · cases h1
      · exact .inr ⟨g', c', cur, h1, Nat.zero_le _, h3⟩⟩
  · by_cases hk : k < us.length
    · rw [List.getElem?_append_left hk] at hy
      rw [List.getElem?_append_left (by rw [← h.len]; exact hk)] at hz
      simp only [hk, ↓reduceIte]
      exact hE _ _ _ _ _ (h.each k y z hy hz) (fun b hb => hks b (h.sub k b hb).1 (h.sub k b hb).2) p2.size
    · have hk' : k = us.length := by
        have := get_lt' hy
        simp at this; omega
      subst hk'
      rw [List.getElem?_append_right (Nat.le_refl _), Nat.sub_self] at hy
      rw [List.getElem?_append_right (by rw [h.len]; exact Nat.le_refl _), h.len, Nat.sub_self] at hz
      simp only [List.getElem?_cons_zero, Option.some.injEq] at hy hz
      subst hy; subst hz
      have e : (fun b => if us.length < us.length then F us.length b else us.length = us.length ∧ fu b) = fu := by
        funext b; simp
      have h9 := hE _ w' _ _ _ he hku p2.size
      rw [← e] at h9
      exact h9
  · simp only at hj hk
    split at hj
    · split at hk
      · exact h.dis j k b hj hk
      · exact absurd (h.sub j b hj).1 (hd b hk.2)
    · split at hk
      · exact absurd (h.sub k b hk).1 (hd b hj.2)
      · rw [hj.1, hk.1]
  · simp only at hk
    split at hk
    · have := h.sub k b hk
      exact ⟨.inl this.1, by simp only [Value.ownBlock, ne_eq, Option.some.injEq]; exact fun e => hgx b (h.bd b this.1) this.2 e.symm⟩
    · exact ⟨.inr (.inl hk.2), by simp only [Value.ownBlock, ne_eq, Option.some.injEq]; exact fun e => hgx b (hfu b hk.2) (hvu b hk.2) e.symm⟩
  · simp only [Value.ownBlock, Option.some.injEq] at hb
    exact .inr (.inr hb.symm)
  · have hs := p2.size
    rcases hb with hb | hb | rfl
    · exact Nat.lt_of_lt_of_le (h.bd b hb) hs
    · exact Nat.lt_of_lt_of_le (hfu b hb) hs
    · exact p4

/-- The row v, of the call's own from block B on, holds xs, each owned by E. -/
def Grow {α : Type} (E : Own α) (t : TypeId) (B : Nat) (w : World) (v : Value) (xs : List α) : Prop := ∃ us F fp, OwU E t w v us xs fp F ∧ ∀ b, fp b → B ≤ b
section
variable {α : Type} {E : Own α} {t : TypeId} {B B' : Nat} {w w' : World} {v : Value} {xs : List α}
theorem Grow.start {g : Nat} (hg : w.heap.size = g) (hB : B ≤ g) : Grow E t B (w.alloc (.cells #[] t)) (.slice (some ⟨g, 0, none⟩) 0 0) ([] : List α) := by
  refine ⟨[], fun _ _ => False, fun b => b = g, ⟨OwV.made w t g hg (Nat.zero_le _), rfl, fun k u x h => by simp at h, fun _ _ _ h => h.elim, fun _ _ h => h.elim, fun b hb => ?_, fun b hb => by rw [hb]; simp; omega⟩, fun b hb => by omega⟩
  simp only [Value.ownBlock, Option.some.injEq] at hb
  exact hb.symm
theorem Grow.nil (w : World) : Grow E t B w (.slice none 0 0) ([] : List α) :=
  ⟨[], fun _ _ => False, fun _ => False, ⟨World.ownsRow_nil _ _ _ _, rfl, fun k u x h => by simp at h, fun _ _ _ h => h.elim, fun _ _ h => h.elim, fun b hb => by simp [Value.ownBlock] at hb, fun b hb => hb.elim⟩, fun b hb => hb.elim⟩
theorem Grow.bel (hE : Kp E) (h : Grow E t B w v xs) (hb : Below w.heap.size w w') : Grow E t B w' v xs := by
  obtain ⟨us, F, fp, h1, h2⟩ := h
  exact ⟨us, F, fp, h1.bel hE hb, h2⟩
theorem Grow.ofL {fp : Nat → Prop} (h : OwL E t w v xs fp) (hf : ∀ b, fp b → B ≤ b) : Grow E t B w v xs := by
  obtain ⟨us, F, h1⟩ := h.open_
  exact ⟨us, F, fp, h1, hf⟩
theorem Grow.toL (h : Grow E t B w v xs) : OwL E t w v xs (fun b => B ≤ b ∧ b < w.heap.size) := by
  obtain ⟨us, F, fp, h1, h2⟩ := h
  exact h1.close.mono (fun b hb => ⟨h2 b hb, h1.bd b hb⟩) (fun b hb => hb.2)
theorem Grow.val (h : Grow E t B w v xs) : ∃ A c, v = .slice A xs.length c := by
  obtain ⟨A, c, e, _⟩ := OwL.rd (P := fun _ _ => True) h.toL fun _ _ _ _ => trivial
  exact ⟨A, c, e⟩
theorem Grow.wr (hE : Kp E) (h : Grow E t B w v xs) {fq : Nat → Prop} (hw : Wr w w' fq) (hd : ∀ b, fq b → w.heap.size ≤ b ∨ b < B) : Grow E t B w' v xs := by
  obtain ⟨us, F, fp, h1, h2⟩ := h
  refine Grow.ofL (fp := fp) (kpL hE _ _ _ _ _ h1.close (fun b hb => hw.block b (h1.bd b hb) fun hq => ?_) hw.size) h2
  have := h1.bd b hb; have := h2 b hb; have := hd b hq; omega
end
/-- A new row of n zeros. -/
theorem E1.zeros (w : World) (n g : Nat) (hg : w.heap.size = g) (hn : n ≤ maxLen) : E1 (w.alloc (.cells (madeCells #[.int .i64 0] n) 2)) (.slice (some ⟨g, 0, none⟩) n n) (List.replicate n 0) (fun b => b = g) := by
  refine ⟨Ow.made' (xs := List.replicate n 0) w _ g n hg ?_ (Nat.zero_le _) (by simp) hn, ?_, fun b hb => ?_, fun b hb => by rw [hb]; simp; omega⟩
  · rw [toList_madeCells_one]; simp
  · intro x hx
    rw [List.eq_of_mem_replicate hx]
    exact ⟨by omega, by omega⟩
  · simp only [Value.ownBlock, Option.some.injEq] at hb
    exact hb.symm
/-! ### filling -/
def mat (n : Nat) (f : Nat → Nat → Int) : List (List Int) := (List.range n).map fun y => (List.range n).map fun z => f y z
/-- What stands when row y has been filled up to z. -/
def pm (n : Nat) (f : Nat → Nat → Int) (y z : Nat) : List (List Int) := mat n fun y' z' => if y' < y ∨ (y' = y ∧ z' < z) then f y' z' else 0
theorem pm_row {n : Nat} {f : Nat → Nat → Int} {y z : Nat} (hy : y < n) : (pm n f y z)[y]? = some ((List.range n).map fun z' => if z' < z then f y z' else 0) := by
  unfold pm mat
  simp only [List.getElem?_map, List.getElem?_range hy, Option.map_some]
  congr 1
  apply List.map_congr_left
  intro z' _
  simp
theorem pm_set {n : Nat} {f : Nat → Nat → Int} {y z : Nat} (hy : y < n) (hz : z < n) : (pm n f y z).set y (((List.range n).map fun z' => if z' < z then f y z' else 0).set z (f y z)) = pm n f y (z + 1) := by
  apply List.ext_getElem?
  intro k
  rw [List.getElem?_set]
  by_cases hk : y = k
  · subst hk
    rw [if_pos rfl, pm_row hy, if_pos (by simp [pm, mat]; exact hy)]
    congr 1
    apply List.ext_getElem?
    intro j
    rw [List.getElem?_set]
    by_cases hj : z = j
    · subst hj; simp [hz]
    · rw [if_neg hj]
      by_cases hjn : j < n
      · simp only [List.getElem?_map, List.getElem?_range hjn, Option.map_some]
        congr 1
        have : (j < z) = (j < z + 1) := by simp; omega
        simp only [this]
      · simp [hjn]
  · rw [if_neg hk]
    by_cases hkn : k < n
    · simp only [pm, mat, List.getElem?_map, List.getElem?_range hkn, Option.map_some]
      congr 1
      apply List.map_congr_left
      intro j _
      have : (k < y ∨ k = y ∧ j < z) = (k < y ∨ k = y ∧ j < z + 1) := by simp; omega
      simp only [this]
    · simp [pm, mat, hkn]
theorem pm_len (n : Nat) (f : Nat → Nat → Int) (y z : Nat) : (pm n f y z).length = n := by simp [pm, mat]
/-- A store into one cell of a matrix of the call's own. -/
theorem E2.store {w : World} {v : Value} {n : Nat} {f : Nat → Nat → Int} {y z : Nat} {fp : Nat → Prop} (h : E2 w v (pm n f y z) fp) (hy : y < n) (hz : z < n) (hx : i64ok (f y z)) :
    ∃ g g2 c c2, v = .slice (some ⟨g, 0, none⟩) n c ∧ w.cell? ⟨g, y, none⟩ = some (.slice (some ⟨g2, 0, none⟩) n c2) ∧ (∃ u, w.cell? ⟨g2, z, none⟩ = some (.int .i64 u)) ∧ w.frozen? ⟨g2, z, none⟩ = false ∧ fp g2 ∧
      E2 (w.setCell ⟨g2, z, none⟩ (.int .i64 (f y z))) v (pm n f y (z + 1)) fp := by
  obtain ⟨A, c, e, hs⟩ := E2.sl2 h
  rw [pm_len] at e hs
  obtain ⟨u, fk, hu, he, hfk, hvk, hup⟩ := OwL.focus kp1 h (pm_row (f := f) (z := z) hy)
  obtain ⟨g, rfl, hc⟩ := hu A n c e
  rcases he.own.form with ⟨_, h0⟩ | ⟨g2, cap, e2, _, hg2, _⟩
  · have := congrArg List.length h0; simp at this; omega
  · rw [List.length_map, List.length_range] at e2
    subst e2
    have hl : n = ((List.range n).map fun z' => if z' < z then f y z' else 0).length := by simp
    have o1 := he.own.cell hl hz
    have o2 := he.own.frozen hl z
    have o3 := he.own.store hl z (f y z)
    refine ⟨g, g2, c, cap, e, hc, ⟨_, o1⟩, o2, hfk _ (he.fp_ g2 rfl), ?_⟩
    rw [← pm_set hy hz]
    refine hup _ _ ⟨rfl, rfl, rfl, by simp [World.setCell], fun b _ hn => Below.heap_setCell _ _ _ _ (by simp; rintro rfl; exact hn (he.fp_ _ rfl))⟩ ⟨o3, ?_, he.fp_, fun b hb => by have := he.bd b hb; simpa [World.setCell] using this⟩
    intro x hxm
    rcases List.mem_or_eq_of_mem_set hxm with h | rfl
    · exact he.rng x h
    · exact hx
/-- .. and it may be stored later, when more has been made. -/
theorem E2.later {w : World} {v : Value} {n : Nat} {f : Nat → Nat → Int} {y z : Nat} {fp : Nat → Prop} (h : E2 w v (pm n f y z) fp) (hy : y < n) (hz : z < n) (hx : i64ok (f y z)) :
    ∃ g g2 c c2, v = .slice (some ⟨g, 0, none⟩) n c ∧ g < w.heap.size ∧ g2 < w.heap.size ∧ w.cell? ⟨g, y, none⟩ = some (.slice (some ⟨g2, 0, none⟩) n c2) ∧ (∃ u, w.cell? ⟨g2, z, none⟩ = some (.int .i64 u)) ∧ w.frozen? ⟨g2, z, none⟩ = false ∧ fp g2 ∧
      ∀ w', Below w.heap.size w w' → E2 (w'.setCell ⟨g2, z, none⟩ (.int .i64 (f y z))) v (pm n f y (z + 1)) fp := by
  obtain ⟨g, g2, c, c2, e, h1, h2, h3, h4, _⟩ := E2.store h hy hz hx
  have hg : g < w.heap.size := World.block_lt_of_cell? _ _ h1
  have hg2 : g2 < w.heap.size := by obtain ⟨u, hu⟩ := h2; exact World.block_lt_of_cell? _ _ hu
  refine ⟨g, g2, c, c2, e, hg, hg2, h1, h2, h3, h4, fun w' hb => ?_⟩
  obtain ⟨g', g2', c', c2', e', k1, k2, k3, k4, k5⟩ := E2.store (E2.below h hb) hy hz hx
  rw [e] at e'
  injection e' with e1 _ _
  injection e1 with e1
  injection e1 with e1 _ _
  subst e1
  rw [(hb.cell (p := ⟨g, y, none⟩) hg).trans h1] at k1
  injection k1 with k1
  injection k1 with k1 _ _
  injection k1 with k1
  injection k1 with k1 _ _
  subst k1
  exact k5

/-! ### slices of integers -/
def ints_E : Own (List Int) := E1
section
variable {w w' : World} {B B' : Nat} {v : Value} {x : List Int} {fp fq : Nat → Prop}
end
/-! ### results -/
/-- It returned something of its own that holds x, and a code. -/
def MkEC {α : Type} (E : Own α) (w : World) (x : α) (code : Int) (e : Ending) (w' : World) : Prop := ∃ v, e = .returned (.tuple #[v, .int .i64 code]) ∧ E w' v x (fun b => w.heap.size ≤ b ∧ b < w'.heap.size) ∧ Below w.heap.size w w'
theorem E1.nil (w : World) (fp : Nat → Prop) (hb : ∀ b, fp b → b < w.heap.size) : E1 w (.slice none 0 0) [] fp := ⟨Ow.nil _ _, by simp, fun b hb => by simp [Value.ownBlock] at hb, hb⟩
end Go.Proofs.YtonehmjoolflfaaGreatDoor
