
/- Nested slices: reading them as lists of lists (Sl2, Sl3), owning them (OwL), what a write may touch (Wr); no function of the program is walked here. -/
import Derived.Test.YtbpihnpakolooaaGreatDoorBa
import Derived.Deep.OwnRows
namespace Go.Proofs.YtbpihnpakolooaaGreatDoor
open Go Go.RowKit
set_option linter.unusedVariables false

structure RdL {α : Type} (P : Value → α → Prop) (w : World) (B : Nat) (A : Option Addr) (n c : Nat) (xs : List α) : Prop where
 len : xs.length = n
 cap : n ≤ c
 at_ : 0 < n → ∃ b off, A = some ⟨b, off, none⟩ ∧ b < B ∧ ∀ k x, xs[k]? = some x → ∃ u, w.cell? ⟨b, off + k, none⟩ = some u ∧ P u x
 nil_ : A = none → c = 0
def S1 (w : World) (B : Nat) (u : Value) (xs : List Int) : Prop := ∃ A n c, u = .slice A n c ∧ Sl w B A n c xs
def Sl2 (w : World) (B : Nat) (A : Option Addr) (n c : Nat) (xss : List (List Int)) : Prop := RdL (S1 w B) w B A n c xss
def S2 (w : World) (B : Nat) (u : Value) (xss : List (List Int)) : Prop := ∃ A n c, u = .slice A n c ∧ Sl2 w B A n c xss
def Sl3 (w : World) (B : Nat) (A : Option Addr) (n c : Nat) (x3 : List (List (List Int))) : Prop := RdL (S2 w B) w B A n c x3

section
variable {w w' : World} {B B' : Nat} {A : Option Addr} {n c : Nat}
theorem RdL.keep {α : Type} {P P' : Value → α → Prop} {xs : List α} (h : RdL P w B A n c xs) (hk : ∀ p : Addr, p.block < B → w'.cell? p = w.cell? p) (hB : B ≤ B') (hP : ∀ u x, P u x → P' u x) : RdL P' w' B' A n c xs :=
 ⟨h.len, h.cap, fun hn => by
  obtain ⟨b, off, e, hb, hc⟩ := h.at_ hn
  refine ⟨b, off, e, by omega, fun k x hx => ?_⟩
  obtain ⟨u, h1, h2⟩ := hc k x hx
  exact ⟨u, (hk _ hb).trans h1, hP _ _ h2⟩, h.nil_⟩
theorem Sl2.keep {xss : List (List Int)} (h : Sl2 w B A n c xss) (hk : ∀ p : Addr, p.block < B → w'.cell? p = w.cell? p) (hB : B ≤ B') : Sl2 w' B' A n c xss :=
 RdL.keep h hk hB fun u x ⟨A, n, c, e, hs⟩ => ⟨A, n, c, e, (hs.keep hk).more hB⟩
theorem Sl3.keep {x3 : List (List (List Int))} (h : Sl3 w B A n c x3) (hk : ∀ p : Addr, p.block < B → w'.cell? p = w.cell? p) (hB : B ≤ B') : Sl3 w' B' A n c x3 :=
 RdL.keep h hk hB fun u x ⟨A, n, c, e, hs⟩ => ⟨A, n, c, e, hs.keep hk hB⟩
theorem Sl2.below {xss : List (List Int)} (h : Sl2 w B A n c xss) (hb : Below B w w') : Sl2 w' B A n c xss := h.keep (fun _ hp => hb.cell hp) (Nat.le_refl _)
theorem Sl3.below {x3 : List (List (List Int))} (h : Sl3 w B A n c x3) (hb : Below B w w') : Sl3 w' B A n c x3 := h.keep (fun _ hp => hb.cell hp) (Nat.le_refl _)
theorem Sl2.more {xss : List (List Int)} (h : Sl2 w B A n c xss) (hB : B ≤ B') : Sl2 w B' A n c xss := h.keep (fun _ _ => rfl) hB
theorem Sl3.more {x3 : List (List (List Int))} (h : Sl3 w B A n c x3) (hB : B ≤ B') : Sl3 w B' A n c x3 := h.keep (fun _ _ => rfl) hB
theorem Sl2.drewN {xss : List (List Int)} (h : Sl2 w B A n c xss) (k : Nat) : Sl2 (w.drewN k) B A n c xss := h.keep (fun _ _ => rfl) (Nat.le_refl _)
theorem Sl3.drewN {x3 : List (List (List Int))} (h : Sl3 w B A n c x3) (k : Nat) : Sl3 (w.drewN k) B A n c x3 := h.keep (fun _ _ => rfl) (Nat.le_refl _)
theorem Sl2.row {b off k : Nat} {xss : List (List Int)} {xs : List Int} (h : Sl2 w B (some ⟨b, off, none⟩) n c xss) (hx : xss[k]? = some xs) :
  ∃ A' n' c', w.cell? ⟨b, off + k, none⟩ = some (.slice A' n' c') ∧ Sl w B A' n' c' xs := by
 have hk := (List.getElem?_eq_some_iff.1 hx).1
 obtain ⟨b', off', e, hb, hc⟩ := h.at_ (by rw [← h.len]; omega)
 cases e
 obtain ⟨u, h1, A', n', c', rfl, hs⟩ := hc k xs hx
 exact ⟨A', n', c', h1, hs⟩
theorem Sl3.row {b off k : Nat} {x3 : List (List (List Int))} {xs : List (List Int)} (h : Sl3 w B (some ⟨b, off, none⟩) n c x3) (hx : x3[k]? = some xs) :
  ∃ A' n' c', w.cell? ⟨b, off + k, none⟩ = some (.slice A' n' c') ∧ Sl2 w B A' n' c' xs := by
 have hk := (List.getElem?_eq_some_iff.1 hx).1
 obtain ⟨b', off', e, hb, hc⟩ := h.at_ (by rw [← h.len]; omega)
 cases e
 obtain ⟨u, h1, A', n', c', rfl, hs⟩ := hc k xs hx
 exact ⟨A', n', c', h1, hs⟩
theorem Sl.row {b off k : Nat} {xs : List Int} (h : Sl w B (some ⟨b, off, none⟩) n c xs) (hk : k < n) : w.cell? ⟨b, off + k, none⟩ = some (.int .i64 (gi xs k)) := by
 obtain ⟨b', off', e, hb, hc⟩ := h.at_ (by omega)
 cases e
 exact hc k hk
end

structure Wr (w w' : World) (fp : Nat → Prop) : Prop where
 os : w'.os = w.os
 tape : w'.tape = w.tape
 output : w'.output = w.output
 size : w.heap.size ≤ w'.heap.size
 block : ∀ b, b < w.heap.size → ¬ fp b → w'.heap[b]? = w.heap[b]?
section
variable {w w' w'' : World} {fp fq : Nat → Prop} {B : Nat}
theorem Wr.refl (w : World) (fp : Nat → Prop) : Wr w w fp := ⟨rfl, rfl, rfl, Nat.le_refl _, fun _ _ _ => rfl⟩
theorem Wr.trans (h : Wr w w' fp) (k : Wr w' w'' fp) : Wr w w'' fp :=
 ⟨k.os.trans h.os, k.tape.trans h.tape, k.output.trans h.output, Nat.le_trans h.size k.size, fun b hb hn => (k.block b (Nat.lt_of_lt_of_le hb h.size) hn).trans (h.block b hb hn)⟩
theorem Wr.mono (h : Wr w w' fp) (hf : ∀ b, fp b → fq b) : Wr w w' fq := ⟨h.os, h.tape, h.output, h.size, fun b hb hn => h.block b hb fun hf' => hn (hf b hf')⟩
theorem Wr.below (h : Wr w w' fp) (hB : ∀ b, fp b → B ≤ b) (hs : B ≤ w.heap.size) : Below B w w' :=
 ⟨h.os, h.tape, h.output, h.size, fun b hb => h.block b (by omega) fun hf => by have := hB b hf; omega⟩
theorem Wr.of_below (h : Below w.heap.size w w') : Wr w w' fp := ⟨h.os, h.tape, h.output, h.size, fun b hb _ => h.block b hb⟩
theorem Wr.of_grown {row : Option Nat} (h : w.grownBy w' row) (hr : ∀ b, row = some b → fp b) : Wr w w' fp :=
 ⟨h.os, h.tape, h.output, h.size, fun b hb hn => h.block b hb fun e => hn (hr b e.symm)⟩
theorem Wr.drewN (h : Wr w w' fp) (k : Nat) : Wr w (w'.drewN k) fp := ⟨h.os, h.tape, h.output, h.size, h.block⟩
theorem Wr.drew (h : Wr w w' fp) : Wr w w'.drew fp := ⟨h.os, h.tape, h.output, h.size, h.block⟩
theorem Wr.own (h : Wr w w' fp) {B : Nat} {v : Value} {xs : List Int} (ho : Ow w B v xs) (hf : ∀ b, v.ownBlock = some b → ¬ fp b) : Ow w' B v xs := by
 obtain ⟨h1, h2⟩ := ho
 refine ⟨h1, ?_⟩
 rcases h2 with h2 | ⟨g, cap, cur, rfl, hg, hh, h3⟩
 ·exact .inl h2
 ·have hl : g < w.heap.size := by
   rcases Nat.lt_or_ge g w.heap.size with h | h
   ·exact h
   ·rw [Array.getElem?_eq_none h] at hh; cases hh
  exact .inr ⟨g, cap, cur, rfl, hg, (h.block g hl (hf g rfl)).trans hh, h3⟩
theorem Wr.blk (h : Wr w w' fp) {g : Nat} {t : TypeId} {cs : Array Value} (hb : Blk w g t cs) (hf : ¬ fp g) : Blk w' g t cs := (h.block g hb.lt hf).trans hb
end

def OwV (w : World) (B : Nat) (t : TypeId) (v : Value) (us : List Value) : Prop := w.ownsRow B t 1 v us.length us
abbrev Own (α : Type) := World → Value → α → (Nat → Prop) → Prop
def Kp {α : Type} (E : Own α) : Prop := ∀ w w' v x fp, E w v x fp → (∀ b, fp b → w'.heap[b]? = w.heap[b]?) → w.heap.size ≤ w'.heap.size → E w' v x fp
structure E1 (w : World) (v : Value) (xs : List Int) (fp : Nat → Prop) : Prop where
 own : Ow w 0 v xs
 rng : ∀ x ∈ xs, i64ok x
 fp_ : ∀ b, v.ownBlock = some b → fp b
 bd : ∀ b, fp b → b < w.heap.size
structure OwL {α : Type} (E : Own α) (t : TypeId) (w : World) (v : Value) (xs : List α) (fp : Nat → Prop) : Prop where
 ex : ∃ (us : List Value) (F : Nat → Nat → Prop), OwV w 0 t v us ∧ us.length = xs.length ∧ (∀ k u x, us[k]? = some u → xs[k]? = some x → E w u x (F k)) ∧ (∀ j k b, F j b → F k b → j = k) ∧ (∀ k b, F k b → fp b ∧ v.ownBlock ≠ some b)
 fp_ : ∀ b, v.ownBlock = some b → fp b
 bd : ∀ b, fp b → b < w.heap.size
def E2 : Own (List (List Int)) := OwL E1 24
def E3 : Own (List (List (List Int))) := OwL E2 29

theorem OwV.keep {w w' : World} {B : Nat} {t : TypeId} {v : Value} {us : List Value} (h : OwV w B t v us) (hk : ∀ b, v.ownBlock = some b → w'.heap[b]? = w.heap[b]?) : OwV w' B t v us := by
 obtain ⟨h1, h2⟩ := h
 refine ⟨h1, ?_⟩
 rcases h2 with h2 | ⟨g, cap, cur, rfl, hg, hh, h3⟩
 ·exact .inl h2
 ·exact .inr ⟨g, cap, cur, rfl, hg, (hk g rfl).trans hh, h3⟩
theorem kp1 : Kp E1 := by
 intro w w' v xs fp h hk hs
 refine ⟨?_, h.rng, h.fp_, fun b hb => by have := h.bd b hb; omega⟩
 have h1 : OwV w 0 2 v (xs.map (Value.int .i64)) := by have := h.own; unfold Ow at this; unfold OwV; simpa using this
 have h2 := h1.keep (w' := w') fun b hb => hk b (h.fp_ b hb)
 unfold OwV at h2; unfold Ow; simpa using h2
theorem kpL {α : Type} {E : Own α} {t : TypeId} (hE : Kp E) : Kp (OwL E t) := by
 intro w w' v xs fp h hk hs
 obtain ⟨us, F, hv, hl, he, hd, hf⟩ := h.ex
 exact ⟨⟨us, F, hv.keep fun b hb => hk b (h.fp_ b hb), hl, fun k u x hu hx => hE _ _ _ _ _ (he k u x hu hx) (fun b hb => hk b (hf k b hb).1) hs, hd, hf⟩, h.fp_, fun b hb => by have := h.bd b hb; omega⟩
theorem kp2 : Kp E2 := kpL kp1

section
variable {w w' : World} {v : Value} {fp fq : Nat → Prop}
theorem E1.sl {xs : List Int} (h : E1 w v xs fp) : ∃ A c, v = .slice A xs.length c ∧ Sl w w.heap.size A xs.length c xs := h.own.sl h.rng
theorem E1.s1 {xs : List Int} (h : E1 w v xs fp) : S1 w w.heap.size v xs := by obtain ⟨A, c, e, hs⟩ := h.sl; exact ⟨A, _, c, e, hs⟩
theorem OwV.lt {B : Nat} {t : TypeId} {us : List Value} (h : OwV w B t v us) : ∀ k, v.ownBlock = some k → B ≤ k ∧ k < w.heap.size := World.ownsRow.lt h
theorem OwL.rd {α : Type} {E : Own α} {t : TypeId} {xs : List α} {P : Value → α → Prop} (h : OwL E t w v xs fp) (hP : ∀ u x fp, E w u x fp → P u x) : ∃ A c, v = .slice A xs.length c ∧ RdL P w w.heap.size A xs.length c xs := by
 obtain ⟨us, F, hv, hl, he, _, _⟩ := h.ex
 rcases hv.2 with ⟨rfl, h3⟩ | ⟨g, cap, cur, rfl, hg, hh, hn, hm, hs, hx⟩
 ·have : xs = [] := List.eq_nil_of_length_eq_zero (by omega)
  subst this
  exact ⟨none, 0, rfl, rfl, by simp, fun h => absurd h (by simp), fun _ => rfl⟩
 ·rw [← hl]
  refine ⟨some ⟨g, 0, none⟩, cap, rfl, hl.symm, hn, fun hpos => ⟨g, 0, rfl, ?_, fun k x hk => ?_⟩, fun h => by cases h⟩
  ·rcases Nat.lt_or_ge g w.heap.size with h | h
   ·exact h
   ·rw [Array.getElem?_eq_none h] at hh; cases hh
  ·have hkl := (List.getElem?_eq_some_iff.1 hk).1
   have hu : ∃ u, us[k]? = some u := ⟨us[k]'(by omega), List.getElem?_eq_getElem _⟩
   obtain ⟨u, hu⟩ := hu
   refine ⟨u, ?_, hP _ _ _ (he k u x hu hk)⟩
   have h5 : (cur.toList.take (us.length * 1))[k]? = us[k]? := by rw [hx]
   rw [List.getElem?_take, if_pos (by omega), hu] at h5
   simp only [World.cell?, hh, Nat.zero_add]
   simpa using h5
theorem E2.sl2 {xs : List (List Int)} (h : E2 w v xs fp) : ∃ A c, v = .slice A xs.length c ∧ Sl2 w w.heap.size A xs.length c xs := OwL.rd h fun _ _ _ h => h.s1
theorem E2.s2 {xs : List (List Int)} (h : E2 w v xs fp) : S2 w w.heap.size v xs := by obtain ⟨A, c, e, hs⟩ := h.sl2; exact ⟨A, _, c, e, hs⟩
theorem E3.sl3 {xs : List (List (List Int))} (h : E3 w v xs fp) : ∃ A c, v = .slice A xs.length c ∧ Sl3 w w.heap.size A xs.length c xs := OwL.rd h fun _ _ _ h => E2.s2 h
theorem E1.mono {xs : List Int} (h : E1 w v xs fp) (hf : ∀ b, fp b → fq b) (hb : ∀ b, fq b → b < w.heap.size) : E1 w v xs fq := ⟨h.own, h.rng, fun b hb => hf b (h.fp_ b hb), hb⟩
theorem OwL.mono {α : Type} {E : Own α} {t : TypeId} {xs : List α} (h : OwL E t w v xs fp) (hf : ∀ b, fp b → fq b) (hb : ∀ b, fq b → b < w.heap.size) : OwL E t w v xs fq := by
 obtain ⟨us, F, h1, h2, h3, h4, h5⟩ := h.ex
 exact ⟨⟨us, F, h1, h2, h3, h4, fun k b hb => ⟨hf b (h5 k b hb).1, (h5 k b hb).2⟩⟩, fun b hb => hf b (h.fp_ b hb), hb⟩
theorem OwL.focus {α : Type} {E : Own α} {t : TypeId} {xs : List α} (hE : Kp E) (h : OwL E t w v xs fp) {k : Nat} {x : α} (hx : xs[k]? = some x) :
  ∃ u fk, (∀ A n c, v = .slice A n c → ∃ g, A = some ⟨g, 0, none⟩ ∧ w.cell? ⟨g, k, none⟩ = some u) ∧ E w u x fk ∧ (∀ b, fk b → fp b) ∧ (∀ b, v.ownBlock = some b → ¬ fk b) ∧
   ∀ w' x', Wr w w' fk → E w' u x' fk → OwL E t w' v (xs.set k x') fp := by
 obtain ⟨us, F, hv, hl, he, hd, hf⟩ := h.ex
 have hkl := (List.getElem?_eq_some_iff.1 hx).1
 obtain ⟨u, hu⟩ : ∃ u, us[k]? = some u := ⟨us[k]'(by omega), List.getElem?_eq_getElem _⟩
 refine ⟨u, F k, fun A n c e => ?_, he k u x hu hx, fun b hb => (hf k b hb).1, fun b hb hn => (hf k b hn).2 hb, fun w' x' hw hx' => ?_⟩
 ·rcases hv.2 with ⟨h2, h3⟩ | ⟨g, cap, cur, h2, hg, hh, hn, hm, hs, hxx⟩
  ·omega
  ·rw [h2] at e
   cases e
   refine ⟨g, rfl, ?_⟩
   have h5 : (cur.toList.take (us.length * 1))[k]? = us[k]? := by rw [hxx]
   rw [List.getElem?_take, if_pos (by omega), hu] at h5
   simp only [World.cell?, hh]
   simpa using h5
 ·refine ⟨⟨us, F, hv.keep fun b hb => hw.block b (h.bd b (h.fp_ b hb)) fun hn => (hf k b hn).2 hb, by rw [hl, List.length_set], fun j u' y hu' hy => ?_, hd, hf⟩, h.fp_, fun b hb => Nat.lt_of_lt_of_le (h.bd b hb) hw.size⟩
  by_cases e : k = j
  ·subst e
   rw [List.getElem?_set_self (by omega)] at hy
   rw [hu] at hu'
   injection hu' with hu'; injection hy with hy
   subst hu'; subst hy
   exact hx'
  ·rw [List.getElem?_set_ne e] at hy
   have h6 := he j u' y hu' hy
   exact hE _ _ _ _ _ h6 (fun b hb => hw.block b (h.bd b (hf j b hb).1) fun hn => e (hd k j b hn hb)) hw.size
theorem E1.below {xs : List Int} (h : E1 w v xs fp) (hb : Below w.heap.size w w') : E1 w' v xs fp := kp1 _ _ _ _ _ h (fun b hf => hb.block b (h.bd b hf)) hb.size
theorem OwL.bel {α : Type} {E : Own α} {t : TypeId} (hE : Kp E) {xs : List α} (h : OwL E t w v xs fp) (hb : Below w.heap.size w w') : OwL E t w' v xs fp := kpL hE _ _ _ _ _ h (fun b hf => hb.block b (h.bd b hf)) hb.size
theorem E2.below {xs : List (List Int)} (h : E2 w v xs fp) (hb : Below w.heap.size w w') : E2 w' v xs fp := OwL.bel kp1 h hb
theorem E3.below {xs : List (List (List Int))} (h : E3 w v xs fp) (hb : Below w.heap.size w w') : E3 w' v xs fp := OwL.bel kp2 h hb
end
def MkE {α : Type} (E : Own α) (w : World) (x : α) (e : Ending) (w' : World) : Prop := ∃ v, e = .returned v ∧ E w' v x (fun b => w.heap.size ≤ b ∧ b < w'.heap.size) ∧ Below w.heap.size w w'

structure Part {α : Type} (E : Own α) (t : TypeId) (g n k : Nat) (xs : List α) (w : World) : Prop where
 ex : ∃ (cs : Array Value) (F : Nat → Nat → Prop), Blk w g t cs ∧ cs.size = n ∧ (∀ j u x, j < k → cs[j]? = some u → xs[j]? = some x → E w u x (F j)) ∧ (∀ j i b, F j b → F i b → j = i) ∧ (∀ j b, F j b → g < b ∧ b < w.heap.size ∧ j < k)
theorem Part.start {α : Type} {E : Own α} {t : TypeId} {g n : Nat} {xs : List α} {w : World} {cs : Array Value} (hb : Blk w g t cs) (hn : cs.size = n) : Part E t g n 0 xs w :=
 ⟨cs, fun _ _ => False, hb, hn, fun j _ _ h => absurd h (Nat.not_lt_zero _), fun _ _ _ h => h.elim, fun _ _ h => h.elim⟩
theorem Part.below {α : Type} {E : Own α} (hE : Kp E) {t : TypeId} {g n k : Nat} {xs : List α} {w w' : World} (h : Part E t g n k xs w) (hb : Below w.heap.size w w') : Part E t g n k xs w' := by
 obtain ⟨cs, F, h1, h2, h3, h4, h5⟩ := h.ex
 exact ⟨cs, F, h1.all hb, h2, fun j u x hj hu hx => hE _ _ _ _ _ (h3 j u x hj hu hx) (fun b hf => hb.block b (h5 j b hf).2.1) hb.size, h4, fun j b hf => by have := h5 j b hf; have := hb.size; omega⟩
theorem Part.blk {α : Type} {E : Own α} {t : TypeId} {g n k : Nat} {xs : List α} {w : World} (h : Part E t g n k xs w) : ∃ cs, Blk w g t cs ∧ cs.size = n := by
 obtain ⟨cs, F, h1, h2, _⟩ := h.ex
 exact ⟨cs, h1, h2⟩
theorem Part.step {α : Type} {E : Own α} (hE : Kp E) {t : TypeId} {g n k : Nat} {xs : List α} {x : α} {w w' : World} {v : Value} (h : Part E t g n k xs w) (hk : k < n) (hx : xs[k]? = some x) (hg : g < w.heap.size)
  (he : E w' v x (fun b => w.heap.size ≤ b ∧ b < w'.heap.size)) (hb : Below w.heap.size w w') : Part E t g n (k + 1) xs (w'.setCell ⟨g, k, none⟩ v) := by
 obtain ⟨cs, F, h1, h2, h3, h4, h5⟩ := h.ex
 have hs := hb.size
 have hsz : (w'.setCell ⟨g, k, none⟩ v).heap.size = w'.heap.size := by simp [World.setCell]
 have hst : ∀ b, g < b → (w'.setCell ⟨g, k, none⟩ v).heap[b]? = w'.heap[b]? := fun b hgb => Below.heap_setCell _ _ _ _ (by simp; omega)
 refine ⟨cs.setIfInBounds k v, fun j b => if j = k then w.heap.size ≤ b ∧ b < w'.heap.size else F j b, (h1.all hb).store k v, by simpa using h2, fun j u y hj hu hy => ?_, fun j i b hj hi => ?_, fun j b hj => ?_⟩
 ·by_cases e : j = k
  ·subst e
   simp only [↓reduceIte]
   rw [hx] at hy; injection hy with hy; subst hy
   rw [Array.getElem?_setIfInBounds, if_pos rfl, if_pos (by omega)] at hu
   injection hu with hu; subst hu
   exact hE _ _ _ _ _ he (fun b hb' => hst b (by omega)) (by rw [hsz]; exact Nat.le_refl _)
  ·simp only [e, ↓reduceIte]
   rw [Array.getElem?_setIfInBounds, if_neg (fun h => e h.symm)] at hu
   refine hE _ _ _ _ _ (h3 j u y (by omega) hu hy) (fun b hb' => ?_) (by rw [hsz]; exact hs)
   have h6 := h5 j b hb'
   rw [hst b h6.1]; exact hb.block b h6.2.1
 ·simp only at hj hi
  by_cases e : j = k
  ·by_cases e' : i = k
   ·omega
   ·rw [if_pos e] at hj; rw [if_neg e'] at hi
    have := h5 i b hi; omega
  ·by_cases e' : i = k
   ·rw [if_neg e] at hj; rw [if_pos e'] at hi
    have := h5 j b hj; omega
   ·rw [if_neg e] at hj; rw [if_neg e'] at hi
    exact h4 j i b hj hi
 ·rw [hsz]
  simp only at hj
  by_cases e : j = k
  ·rw [if_pos e] at hj; omega
  ·rw [if_neg e] at hj
   have := h5 j b hj; omega
theorem Part.done {α : Type} {E : Own α} {t : TypeId} {g : Nat} {xs : List α} {w : World} (h : Part E t g xs.length xs.length xs w) (hm : xs.length ≤ maxLen) :
  OwL E t w (.slice (some ⟨g, 0, none⟩) xs.length xs.length) xs (fun b => g ≤ b ∧ b < w.heap.size) := by
 obtain ⟨cs, F, h1, h2, h3, h4, h5⟩ := h.ex
 refine ⟨⟨cs.toList, F, ?_, by simpa using h2, fun k u x hu hx => ?_, h4, fun k b hf => ?_⟩, fun b hb => ?_, fun b hb => hb.2⟩
 ·refine ⟨by simp, .inr ⟨g, xs.length, cs, by simp [h2], Nat.zero_le _, h1, by simp [h2], hm, by simp [h2], List.take_of_length_le (by simp)⟩⟩
 ·have hkl := (List.getElem?_eq_some_iff.1 hx).1
  exact h3 k u x hkl (by simpa using hu) hx
 ·have := h5 k b hf
  exact ⟨by omega, by simp [Value.ownBlock]; omega⟩
 ·have : g = b := by simpa [Value.ownBlock] using hb
  subst this
  exact ⟨Nat.le_refl _, h1.lt⟩
end Go.Proofs.YtbpihnpakolooaaGreatDoor
