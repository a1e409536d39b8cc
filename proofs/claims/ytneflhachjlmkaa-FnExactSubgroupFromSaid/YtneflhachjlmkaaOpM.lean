
/- What came in, opened: a struct of a metric. -/
import Derived.Test.YtneflhachjlmkaaOpen
import Derived.Deep.Strs
namespace Go.Proofs.Ytneflhachjlmkaa
open Go Go.ChangeShapes Go.WideShapes Go.ChangeAt Go.RowKit Go.Joins
set_option linter.unusedSimpArgs false
set_option linter.unusedVariables false

section
variable {H : Type} {enc : TypeId × Value → H} {W : World} {base : Nat} {spare : Nat → Bool} {held : Bool}
set_option maxRecDepth 100000 in
theorem open_metric {r : Reach} {b0 : Nat} {v : Value} {d : DataW H} {p : List MemPlace} (hv : Value.okWide Try.prog W r b0 24 v) (h : DataW.Trod enc Try.prog W base spare held 24 v d p) :
    ∃ A n c xs z A' n' c' ys, v = .agg #[.slice A n c, .int .i64 z, .slice A' n' c'] ∧ SlIn W A n c xs ∧ SlIn W A' n' c' ys ∧ i64ok z := by
  obtain ⟨cs, rfl, hsz⟩ := okWide_struct Try.underlying24 hv
  have hc : cs.size = 3 := hsz.trans (by kernel_rfl)
  obtain ⟨l⟩ := cs
  match l, hc with
  | [c0, c1, c2], _ =>
    obtain ⟨fuel, hf⟩ := h
    obtain ⟨y0, y1, y2, n, _, _, h0, h1, h2⟩ := Go.Deep.trod_struct3 Try.underlying24 hf
    have e0 : DataW.trod enc Try.prog W base spare held n 22 [c0] = some y0 := h0
    have e1 : DataW.trod enc Try.prog W base spare held n 2 [c1] = some y1 := h1
    have e2 : DataW.trod enc Try.prog W base spare held n 22 [c2] = some y2 := h2
    obtain ⟨A, m, c, xs, rfl, s0⟩ := sl_of_trod e0
    obtain ⟨A', m', c', ys, rfl, s2⟩ := sl_of_trod e2
    obtain ⟨z, hz, _, hw⟩ := DataW.trod_int Try.underlying2 e1
    obtain rfl : c1 = .int .i64 z := by simpa using hz
    refine ⟨A, m, c, xs, z, A', m', c', ys, rfl, s0, s2, ?_⟩
    simpa [Lit.wf, IntKind.min, IntKind.max, IntKind.signed, IntKind.bits, i64ok] using hw
end
theorem i64_of_wf {x : Int} (h : (Lit.int .i64 x).wf = true) : i64ok x := by
  simpa [Lit.wf, IntKind.min, IntKind.max, IntKind.signed, IntKind.bits, i64ok] using h
end Go.Proofs.Ytneflhachjlmkaa
