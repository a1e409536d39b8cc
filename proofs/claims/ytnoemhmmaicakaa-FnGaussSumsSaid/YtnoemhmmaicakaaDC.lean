
/- Sources of draws of which the hash may be known: l01Next, l01Pick, l09Orders2. -/
import Derived.Test.YtnoemhmmaicakaaDB
import Derived.WalkLawsBesides
namespace Go.Proofs.Ytnoemhmmaicakaa
open Go Go.RowKit Grp
set_option linter.unusedSimpArgs false
set_option linter.unusedVariables false

/-- A source at a place that is at least lo; where a hash is given, its code is used up and this is its hash. -/
structure SrcE (w0 : World) (B S : Nat) (A : Option Addr) (n c lo : Nat) (E : Option Int) (w : World) : Prop where
  src : ∃ (a : Nat) (h : Int), lo ≤ a ∧ SrcX w0 B S A n c a h w ∧ ∀ g, E = some g → a = n ∧ h = g
/-- It drew from a source whose hash may be known, and returned what is told. -/
def DrE (w0 : World) (B S : Nat) (A : Option Addr) (n c lo : Nat) (E : Option Int) (w : World) (p : Int → Prop) (e : Ending) (w' : World) : Prop :=
  ∃ x, e = .returned (.int .i64 x) ∧ p x ∧ SrcE w0 B S A n c lo E w' ∧ w.grownBy w' (some S)
/-- One place on, at most n. -/
def up (n lo : Nat) : Nat := if lo < n then lo + 1 else lo
theorem up_ge (n lo : Nat) : lo ≤ up n lo := by unfold up; split <;> omega
section
variable {w0 w w' : World} {B S : Nat} {A : Option Addr} {n c a lo : Nat} {h : Int} {E : Option Int}
theorem SrcE.lt (hs : SrcE w0 B S A n c lo E w) : S < w.heap.size := by obtain ⟨⟨a, g, _, hb, _⟩⟩ := hs; exact hb.lt
theorem SrcE.below (hs : SrcE w0 B S A n c lo E w) : Below B w0 w := by obtain ⟨⟨a, g, _, hb, _⟩⟩ := hs; exact hb.below
theorem SrcE.hS (hs : SrcE w0 B S A n c lo E w) : B ≤ S := by obtain ⟨⟨a, g, _, hb, _⟩⟩ := hs; exact hb.hS
theorem SrcE.any (hs : SrcE w0 B S A n c lo E w) : Src w0 B S A n c lo w := by obtain ⟨⟨a, g, hl, hb, _⟩⟩ := hs; exact ⟨⟨a, g, hl, hb⟩⟩
theorem Src.e (hs : Src w0 B S A n c lo w) : SrcE w0 B S A n c lo none w := by obtain ⟨⟨a, g, hl, hb⟩⟩ := hs; exact ⟨⟨a, g, hl, hb, fun g h => by cases h⟩⟩
theorem SrcX.e (hs : SrcX w0 B S A n c n h w) (hl : lo ≤ n) : SrcE w0 B S A n c lo (some h) w := ⟨⟨n, h, hl, hs, fun g e => ⟨rfl, Option.some.inj e⟩⟩⟩
theorem SrcE.x {g : Int} (hs : SrcE w0 B S A n c lo (some g) w) : SrcX w0 B S A n c n g w ∧ lo ≤ n := by
  obtain ⟨⟨a, h, hl, hb, he⟩⟩ := hs
  obtain ⟨rfl, rfl⟩ := he g rfl
  exact ⟨hb, hl⟩
theorem SrcE.alloc (hs : SrcE w0 B S A n c lo E w) (o : Obj) : SrcE w0 B S A n c lo E (w.alloc o) := by obtain ⟨⟨a, g, hl, hb, he⟩⟩ := hs; exact ⟨⟨a, g, hl, hb.alloc o, he⟩⟩
theorem SrcE.drewN (hs : SrcE w0 B S A n c lo E w) (m : Nat) : SrcE w0 B S A n c lo E (w.drewN m) := by obtain ⟨⟨a, g, hl, hb, he⟩⟩ := hs; exact ⟨⟨a, g, hl, hb.drewN m, he⟩⟩
theorem SrcE.less {lo' : Nat} (hs : SrcE w0 B S A n c lo E w) (h : lo' ≤ lo) : SrcE w0 B S A n c lo' E w := by obtain ⟨⟨a, g, hl, hb, he⟩⟩ := hs; exact ⟨⟨a, g, by omega, hb, he⟩⟩
theorem SrcE.no (hs : SrcE w0 B S A n c lo E w) : SrcE w0 B S A n c lo none w := hs.any.e
/-- What makes memory anew, or writes to memory apart from the source, leaves it. -/
theorem SrcE.all (hs : SrcE w0 B S A n c lo E w) (hb : Below w.heap.size w w') (hB : B ≤ w.heap.size) : SrcE w0 B S A n c lo E w' := by
  obtain ⟨⟨a, g, hl, h, he⟩⟩ := hs
  exact ⟨⟨a, g, hl, ⟨h.h0, h.h1, h.ha, h.blk.all hb, h.below.trans (hb.mono hB), h.hS⟩, he⟩⟩
theorem SrcE.store (hs : SrcE w0 B S A n c lo E w) {D i : Nat} (hD : D ≠ S) (hB : B ≤ D) (v : Value) : SrcE w0 B S A n c lo E (w.setCell ⟨D, i, none⟩ v) := by
  obtain ⟨⟨a, g, hl, h, he⟩⟩ := hs
  exact ⟨⟨a, g, hl, ⟨h.h0, h.h1, h.ha, h.blk.far (Ne.symm hD) _, h.below.setCell hB _, h.hS⟩, he⟩⟩
theorem SrcE.push {C : Nat} {v : Value} {xs : List Int} {y : Int} {H g cap : Nat} (h : SrcE w0 B S A n c lo E w) (hP : Pushed w C v xs y H g cap w') (hO : Ow w C v xs) (hBC : B ≤ C) (hC : C ≤ w.heap.size) : SrcE w0 B S A n c lo E w' := by
  obtain ⟨⟨a, g, hl, h, he⟩⟩ := h
  exact ⟨⟨a, g, hl, h.push hP hO hBC hC, he⟩⟩
theorem SrcE.ne {C : Nat} {v : Value} {xs : List Int} (h : SrcE w0 B S A n c lo E w) (hO : Ow w C v xs) : ∀ b, v.ownBlock = some b → some S ≠ some b := h.any.ne hO
theorem DrX.e {p : Int → Prop} {e : Ending} (hl : lo ≤ a) (hx : DrX w0 B S A n c a h w p e w') (hE : ∀ g, E = some g → a = n ∧ h = g) : DrE w0 B S A n c (up n lo) (E.map tick) w p e w' := by
  obtain ⟨x, h1, h2, h3, h4⟩ := hx
  refine ⟨x, h1, h2, ⟨⟨_, _, ?_, h3, ?_⟩⟩, h4⟩
  · unfold up; split <;> split <;> omega
  · intro g hg
    cases E with
    | none => cases hg
    | some k =>
      obtain ⟨rfl, rfl⟩ := hE k rfl
      rw [if_neg (Nat.lt_irrefl a)]
      exact ⟨rfl, Option.some.inj hg⟩
end
/-- The draw modulo m that a known hash yields. -/
def drw (h m : Int) : Int := tick h / 8589934592 % 16777216 % m
theorem l01Next_e (w0 w : World) (B S : Nat) (A : Option Addr) (n c lo : Nat) (E : Option Int) (bs : List Int) (hb : SlB w0 B A n c bs) (hn : n ≤ 1048576) (hs : SrcE w0 B S A n c lo E w) (m : Int) (hm : i64ok m) (h1 : 1 ≤ m) :
    Calls Try.prog 50 #[.pointer (some ⟨S, 0, none⟩), .int .i64 m] w (DrE w0 B S A n c (up n lo) (E.map tick) w (fun x => (0 ≤ x ∧ x < m) ∧ ∀ g, E = some g → x = drw g m)) := by
  obtain ⟨⟨a, h, hl, hX, hE⟩⟩ := hs
  refine (l01Next_x w0 w B S A n c a h bs hb hn hX m hm h1).mono fun e w' hd => ?_
  have h2 := hd.e hl hE
  obtain ⟨x, e1, ⟨⟨x0, x1, _⟩, hx⟩, _, _⟩ := hd
  obtain ⟨x', e2, _, h3, h4⟩ := h2
  obtain rfl : x' = x := by rw [e1] at e2; injection e2 with e2; injection e2 with _ e2; exact e2.symm
  refine ⟨x', e1, ⟨⟨x0, x1⟩, fun g hg => ?_⟩, h3, h4⟩
  obtain ⟨ha, hh⟩ := hE g hg
  rw [hx ha, hh]; rfl
theorem l01Pick_e (w0 w : World) (B S : Nat) (A : Option Addr) (n c lo : Nat) (E : Option Int) (bs : List Int) (hb : SlB w0 B A n c bs) (hn : n ≤ 1048576) (hs : SrcE w0 B S A n c lo E w) (L T q : Nat) (ys : List Int) (hL : Blk w L T (ys.map (Value.int .i64)).toArray) (hne : L ≠ S) (hq : ys.length = q) (h1 : 1 ≤ q) (h2 : q ≤ 1000) :
    Calls Try.prog 51 #[.pointer (some ⟨S, 0, none⟩), .slice (some ⟨L, 0, none⟩) q q] w (DrE w0 B S A n c (up n lo) (E.map tick) w (fun x => x ∈ ys)) := by
  obtain ⟨⟨a, h, hl, hX, hE⟩⟩ := hs
  exact (l01Pick_x w0 w B S A n c a h bs hb hn hX L T q ys hL hne hq h1 h2).mono fun e w' hd => hd.e hl hE
/-- Of the orders drawn the hash is known where most is less than 2. -/
def eOrd (most : Int) (E : Option Int) : Option Int := if most ≤ 1 then E.map fun g => ticks g (3 + 2 * (drw g 3).toNat) else none
theorem orders2_e (w0 w : World) (B S : Nat) (A : Option Addr) (n c lo : Nat) (E : Option Int) (bs : List Int) (hb : SlB w0 B A n c bs) (hn : n ≤ 1048576) (hs : SrcE w0 B S A n c lo E w) (hBw : B ≤ w.heap.size) (most : Int) (hm0 : 0 ≤ most) (hm : most ≤ 1000) :
    Calls Try.prog 49 #[.pointer (some ⟨S, 0, none⟩), .int .i64 most] w (fun e w' => ∃ v os, e = .returned v ∧ Ow w' w.heap.size v os ∧ OrdP most os ∧ (most ≤ 1 → os = []) ∧ SrcE w0 B S A n c lo (eOrd most E) w' ∧ w.grownBy w' (some S)) := by
  have gen : eOrd most E = none → Calls Try.prog 49 #[.pointer (some ⟨S, 0, none⟩), .int .i64 most] w (fun e w' => ∃ v os, e = .returned v ∧ Ow w' w.heap.size v os ∧ OrdP most os ∧ (most ≤ 1 → os = []) ∧ SrcE w0 B S A n c lo (eOrd most E) w' ∧ w.grownBy w' (some S)) := by
    intro hE
    rw [hE]
    refine (orders2_any w0 w B S A n c lo bs hb hn hs.any hBw most hm0 hm).mono ?_
    rintro e w' ⟨v, os, h1, h2, h3, h4, h5⟩
    refine ⟨v, os, h1, h2, h3, fun h => ?_, h4.e, h5⟩
    obtain ⟨g1, g2, g3, g4, g5⟩ := h3
    cases os with
    | nil => rfl
    | cons x xs =>
      have hx := (g1 x (by simp)).1
      have hp : 1 ≤ prodL xs := prodL_pos fun y hy => by have := (g1 y (by simp [hy])).1; omega
      have : prodL (x :: xs) = x * prodL xs := rfl
      have : 2 * 1 ≤ x * prodL xs := Int.mul_le_mul hx hp (by omega) (by omega)
      omega
  by_cases h1 : most ≤ 1
  · cases E with
    | none => exact gen (by unfold eOrd; rw [if_pos h1]; rfl)
    | some g =>
      obtain ⟨hX, hl⟩ := hs.x
      refine (orders2_x w0 w B S A n c g bs hb hn hX hBw most hm0 h1).mono ?_
      rintro e w' ⟨v, h2, h3, h4, h5⟩
      refine ⟨v, [], h2, h3, ⟨by simp, by simp, by simp [prodL], .inl rfl, fun h => by omega⟩, fun _ => rfl, ?_, h5⟩
      unfold eOrd
      rw [if_pos h1]
      exact h4.e hl
  · exact gen (by unfold eOrd; rw [if_neg h1])
end Go.Proofs.Ytnoemhmmaicakaa
