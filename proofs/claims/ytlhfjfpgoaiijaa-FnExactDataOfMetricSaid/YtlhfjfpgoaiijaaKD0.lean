
/- The kinds of a law's arguments and results, in one form: slices of integers, rows of integers. -/
import Derived.Test.YtlhfjfpgoaiijaaNW1
import Derived.Test.YtlhfjfpgoaiijaaLa
namespace Go.Proofs.Ytlhfjfpgoaiijaa
open Go Go.RowKit
set_option linter.unusedSimpArgs false
set_option linter.unusedVariables false
set_option maxRecDepth 100000

/-! ### slices of integers -/
abbrev ints_T := List Int
def ints_R (w : World) (B : Nat) (v : Value) (x : List Int) : Prop := S1 w B v x
def ints_E : Own (List Int) := E1
def ints_Big (x : List Int) : Prop := x.length ≤ 9223372036854775807
def ints_Sh (x : List Int) : Prop := x.length ≤ 1048576
def ints_tot (x : List Int) : Nat := x.length
def ints_sum (x : List Int) : Nat := x.length
def ints_mk (q : Int) (x : List Int) : List Int := mark1 q x
def ints_held (q : Int) (x : List Int) : Int := heldI q x
section
variable {w w' : World} {B B' : Nat} {v : Value} {x : List Int} {fp fq : Nat → Prop}
theorem ints_form (h : ints_R w B v x) : ∃ A n c, v = .slice A n c ∧ Sl w B A n c x := h
theorem ints_keep (h : ints_R w B v x) (hb : Below B w w') (hB : B ≤ B') : ints_R w' B' v x := by
  obtain ⟨A, n, c, e, hs⟩ := h
  exact ⟨A, n, c, e, (hs.below hb).more hB⟩
theorem ints_rd (h : ints_E w v x fp) : ints_R w w.heap.size v x := E1.s1 h
theorem ints_kp : Kp ints_E := kp1
theorem ints_below (h : ints_E w v x fp) (hb : Below w.heap.size w w') : ints_E w' v x fp := E1.below h hb
theorem ints_wr (h : ints_E w v x fp) (hw : Wr w w' fq) (hd : ∀ b, fp b → fq b → False) : ints_E w' v x fp := kp1 _ _ _ _ _ h (fun b hb => hw.block b (h.bd b hb) (hd b hb)) hw.size
theorem ints_sh (h : ints_tot x ≤ 1048576) : ints_Sh x := h
theorem ints_sumle (x : List Int) : ints_sum x ≤ ints_tot x := Nat.le_refl _
theorem ints_shmk {q : Int} (h : ints_Sh x) : ints_Sh (ints_mk q x) := by unfold ints_Sh ints_mk mark1; rw [marks_length]; exact h
theorem ints_heldmk1 : ints_held 1 (ints_mk 1 x) = 1 + (ints_sum x : Int) := heldI_marks _ _
end
theorem ints_sz (w : World) (v : Value) (x : List Int) (l : Int) (h : ints_R w w.heap.size v x) (hb : ints_Big x) (hl : 0 ≤ l) (hl1 : l ≤ 1048576) : Calls Try.prog 13 #[v, .int .i64 l] w (Re w (.int .i64 (szI l (ints_tot x)))) := by
  obtain ⟨A, n, c, rfl, hs⟩ := h
  obtain rfl := hs.len
  exact (szInt64S_any w A x.length c l hl hl1 hb).mono fun _ _ h => Qt.re h
theorem ints_to (w : World) (v : Value) (x : List Int) (h : ints_R w w.heap.size v x) (hs : ints_Sh x) : Calls Try.prog 19 #[v] w (MkE ints_E w x) := by
  obtain ⟨A, n, c, rfl, hl⟩ := h
  obtain rfl := hl.len
  exact (toInt64S_any w w.heap.size A x.length c x hl (Nat.le_refl _) hs).mono fun _ _ h => mkE1 h hl.rng
theorem ints_eq (w : World) (v v' : Value) (x y : List Int) (h : ints_R w w.heap.size v x) (h' : ints_R w w.heap.size v' y) (hs : ints_Sh x) : Calls Try.prog 24 #[v, v'] w (Re w (.bool (x == y))) := by
  obtain ⟨A, n, c, rfl, hl⟩ := h
  obtain ⟨A', n', c', rfl, hl'⟩ := h'
  obtain rfl := hl.len
  exact (eqInt64S_any w _ _ A A' _ n' c c' x y hl hl' hs).mono fun _ _ h => Qt.re h
theorem ints_mark (w : World) (v : Value) (x : List Int) (fp : Nat → Prop) (q : Int) (h : ints_E w v x fp) (hn : ints_tot x ≤ 1048576) (hq0 : 0 ≤ q) (hq1 : q ≤ 50000000) : Calls Try.prog 25 #[v, .int .i64 q] w (MrkE ints_E ints_mk ints_sum w v x fp q) :=
  (markInt64S_any w 0 v q x h.own hn hq0 (by omega)).mono fun _ _ hm => mrkE1 hm h hq0 (by omega) hn
theorem ints_heldc (w : World) (v : Value) (x : List Int) (q : Int) (h : ints_R w w.heap.size v x) (hs : ints_Sh x) (hq0 : 0 ≤ q) (hq1 : q ≤ 50000000) : Calls Try.prog 28 #[v, .int .i64 q] w (Re w (.int .i64 (ints_held q x))) := by
  obtain ⟨A, n, c, rfl, hl⟩ := h
  obtain rfl := hl.len
  exact (heldInt64S_any w _ A x.length c q x hl hs hq0 (by omega)).mono fun _ _ h => Qt.re h

/-! ### results -/
/-- It returned something of its own that holds x, and a code. -/
def MkEC {α : Type} (E : Own α) (w : World) (x : α) (code : Int) (e : Ending) (w' : World) : Prop := ∃ v, e = .returned (.tuple #[v, .int .i64 code]) ∧ E w' v x (fun b => w.heap.size ≤ b ∧ b < w'.heap.size) ∧ Below w.heap.size w w'
theorem E1.nil (w : World) (fp : Nat → Prop) (hb : ∀ b, fp b → b < w.heap.size) : E1 w (.slice none 0 0) [] fp := ⟨Ow.nil _ _, by simp, fun b hb => by simp [Value.ownBlock] at hb, hb⟩
theorem E1.of_ow {w : World} {B : Nat} {v : Value} {xs : List Int} (h : Ow w B v xs) (hr : ∀ x ∈ xs, i64ok x) : E1 w v xs (fun b => B ≤ b ∧ b < w.heap.size) := ⟨h.less (Nat.zero_le _), hr, fun b hb => h.lt b hb, fun b hb => hb.2⟩
end Go.Proofs.Ytlhfjfpgoaiijaa
