
/- Helpers of the laws on subgroups: hasInt, sum; metrics and lists in memory; ranges of the results. The table of math/bits out of a card's condition. The walk of the law FnSubgroups. -/
import Derived.Test.YtbpihnpakolooaaGreatDoorDla
import Derived.Test.YtbpihnpakolooaaGreatDoorD5a
import Derived.Test.YtbpihnpakolooaaGreatDoorSBa
import Derived.Test.YtbpihnpakolooaaGreatDoorMWz
import Derived.WalkLawsBesides
import Derived.Test.YtbpihnpakolooaaGreatDoorRows
import Derived.Test.YtbpihnpakolooaaGreatDoorMWy
import Derived.Lib.LaidTab
import Derived.LaidMore
import Derived.Deep.DeepCutAuto
namespace Go.Proofs.YtbpihnpakolooaaGreatDoor
open Go Go.RowKit Grp
set_option linter.unusedSimpArgs false
set_option linter.unusedVariables false
/-- A metric lies in block M; what lay before the law lies as it lay. -/
structure GM (w : World) (M : Nat) (A1 : Option Addr) (c1 : Nat) (A2 : Option Addr) (c2 : Nat) (os : List Int) (q : Int) (vs : List Int) (wx : World) : Prop where
 b : Blk wx M 26 #[.slice A1 os.length c1, .int .i64 q, .slice A2 vs.length c2]
 s1 : Sl wx wx.heap.size A1 os.length c1 os
 s2 : Sl wx wx.heap.size A2 vs.length c2 vs
 kk : Below w.heap.size w wx
/-- The same, and a list. -/
structure GX (w : World) (M : Nat) (A1 : Option Addr) (c1 : Nat) (A2 : Option Addr) (c2 : Nat) (L : Option Addr) (lc : Nat) (os : List Int) (q : Int) (vs xs : List Int) (wx : World) : Prop where
 m : GM w M A1 c1 A2 c2 os q vs wx
 s3 : Sl wx wx.heap.size L xs.length lc xs
theorem Sl.mov {wx wy : World} {A : Option Addr} {n c : Nat} {xs : List Int} (h : Sl wx wx.heap.size A n c xs) (hb : Below wx.heap.size wx wy) : Sl wy wy.heap.size A n c xs := (h.below hb).more hb.size
section
variable {w wx wy : World} {M : Nat} {A1 A2 L : Option Addr} {c1 c2 lc : Nat} {os vs xs : List Int} {q : Int}
theorem GM.all (h : GM w M A1 c1 A2 c2 os q vs wx) (hb : Below wx.heap.size wx wy) : GM w M A1 c1 A2 c2 os q vs wy :=
 ⟨h.b.all hb, h.s1.mov hb, h.s2.mov hb, h.kk.trans (hb.mono h.kk.size)⟩
theorem GX.all (h : GX w M A1 c1 A2 c2 L lc os q vs xs wx) (hb : Below wx.heap.size wx wy) : GX w M A1 c1 A2 c2 L lc os q vs xs wy := ⟨h.m.all hb, h.s3.mov hb⟩
theorem GM.new (s1 : Sl wx wx.heap.size A1 os.length c1 os) (s2 : Sl wx wx.heap.size A2 vs.length c2 vs) (kk : Below w.heap.size w wx) :
  GM w wx.heap.size A1 c1 A2 c2 os q vs (wx.alloc (.cells #[.slice A1 os.length c1, .int .i64 q, .slice A2 vs.length c2] 26)) :=
 have hb : Below wx.heap.size wx (wx.alloc (.cells #[.slice A1 os.length c1, .int .i64 q, .slice A2 vs.length c2] 26)) := (Below.refl _ _).alloc (Nat.le_refl _) _
 ⟨Blk.new _ _ _, s1.mov hb, s2.mov hb, kk.trans (hb.mono kk.size)⟩
theorem GX.new (s1 : Sl wx wx.heap.size A1 os.length c1 os) (s2 : Sl wx wx.heap.size A2 vs.length c2 vs) (s3 : Sl wx wx.heap.size L xs.length lc xs) (kk : Below w.heap.size w wx) :
  GX w wx.heap.size A1 c1 A2 c2 L lc os q vs xs (wx.alloc (.cells #[.slice A1 os.length c1, .int .i64 q, .slice A2 vs.length c2] 26)) :=
 ⟨GM.new s1 s2 kk, s3.mov ((Below.refl _ _).alloc (Nat.le_refl _) _)⟩
end
theorem rng_i64 {xs : List Int} {n : Nat} (hn : n ≤ 1048576) (h : ∀ x ∈ xs, 0 ≤ x ∧ x < n) : ∀ x ∈ xs, i64ok x := fun x hx => by have := h x hx; exact ⟨by omega, by omega⟩
theorem tb_of_laid {W : World} (h : laidMetH Tryz.prog [("math/bits.deBruijn64tab", Rows.laid_math_bits_deBruijn64tab)] W) : Tb W := by
 rw [MakeChecks.laidMetH_plain _ _ _ (by kernel_rfl)] at h
 have hT := Lib.tabIs_of_head (P := Tryz.prog) (W := W) (name := "math/bits.deBruijn64tab") (k := .u8) (zs := Lib.deBruijn64tab.map fun (n : Nat) => (n : Int)) (rest := []) (g := 0) (t := 134) (e := 5) (n := 64)
  (by kernel_rfl) (by kernel_rfl) Tryz.underlying134 Tryz.underlying5 (by kernel_rfl) (by kernel_rfl) h
 have hc : ∀ i, i < 64 → W.cell? ⟨0, i, none⟩ = some (.int .u8 ((Lib.deBruijn64tab.map fun (n : Nat) => (n : Int)).getD i 0)) := fun i hi =>
  hT.cell (by kernel_rfl) i (by simpa [Lib.deBruijn64tab] using hi)
 refine ⟨?_, fun j hj => ?_⟩
 ·have h0 := hc 0 (by omega)
  rcases Nat.lt_or_ge 0 W.heap.size with hl | hl
  ·exact hl
  ·rw [World.cell?, Array.getElem?_eq_none hl] at h0
   cases h0
 ·have h0 := hc j (by simpa [Lib.deBruijn64tab] using hj)
  rw [h0]
  simp only [List.getD_eq_getElem?_getD, List.getElem?_map, List.getElem?_eq_getElem hj, Option.map_some, Option.getD_some]
end Go.Proofs.YtbpihnpakolooaaGreatDoor
