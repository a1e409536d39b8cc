
/- A map from triples to Bools beside what the call owns. -/
import Derived.Test.YteobaodabjdcaaaCT6
import Derived.Maps.OwnSet
import Derived.DeepKeys4
namespace Go.Proofs.Yteobaodabjdcaaa
open Go Go.RowKit
set_option linter.unusedSimpArgs false
set_option linter.unusedVariables false
set_option maxRecDepth 100000
abbrev T3 := Nat × Nat × Nat
def tv (t : T3) : Value := .agg #[.int .i64 t.1, .int .i64 t.2.1, .int .i64 t.2.2]
theorem laid3 : laidOutB Try.prog = true := by kernel_rfl
theorem law3 : Maps.Keyed Try.prog 49 := Maps.Keyed.of_law (deep_law_laid laid3 (m := 2) (by omega) (by decide +kernel) (by kernel_rfl) (by rw [Try.underlying49]))
theorem zeroB (w : World) : (zeroValue 4).run Try.prog w = .ok (.bool false) w := by kernel_rfl
def trs3 : List T3 := [(1, 1, 1), (1, 1, 2), (1, 2, 1), (1, 2, 2), (2, 1, 1), (2, 1, 2), (2, 2, 1), (2, 2, 2)]
noncomputable def kt (t : T3) : Lit := (keyOf Try.prog 49 (tv t)).getD (.bool false)
theorem key3 {t : T3} (h : t ∈ trs3) : keyOf Try.prog 49 (tv t) = some (kt t) := by
  have : (keyOf Try.prog 49 (tv t)).isSome = true := by
    simp only [trs3, List.mem_cons, List.not_mem_nil, or_false] at h
    rcases h with rfl | rfl | rfl | rfl | rfl | rfl | rfl | rfl <;> kernel_rfl
  unfold kt
  cases hk : keyOf Try.prog 49 (tv t) with
  | none => rw [hk] at this; cases this
  | some l => rfl
theorem tv_inj {s t : T3} (h : tv s = tv t) : s = t := by
  unfold tv at h
  simp only [Value.agg.injEq, Array.mk.injEq, List.cons.injEq, Value.int.injEq, true_and, and_true] at h
  obtain ⟨a, b, c⟩ := s
  obtain ⟨a', b', c'⟩ := t
  simp only at h
  obtain ⟨h1, h2, h3⟩ := h
  have e1 : a = a' := by omega
  have e2 : b = b' := by omega
  have e3 : c = c' := by omega
  subst e1; subst e2; subst e3; rfl
theorem kt_inj {s t : T3} (hs : s ∈ trs3) (ht : t ∈ trs3) (h : kt s = kt t) : s = t := by
  have h1 := key3 hs
  have h2 := key3 ht
  rw [h] at h1
  exact tv_inj (law3.inj h1 h2)
/-- Block b is a map of triples to Bools that reads as M, of at most n entries. -/
def Mp3 (w : World) (b n : Nat) (M : DataW Unit) : Prop := w.ownsMap Try.prog 49 (plainElem Try.prog 4) b n M
/-- The map tells just the triples of a list. -/
def Seen (M : DataW Unit) (l : List T3) : Prop := Maps.IsMap M ∧ ∀ t ∈ trs3, M.atKey (kt t) (.lit (.bool false)) = .lit (.bool (decide (t ∈ l)))
theorem Seen.nil : Seen (.map []) [] := ⟨⟨[], rfl⟩, fun t _ => rfl⟩
theorem Seen.put {M : DataW Unit} {l : List T3} {t : T3} (h : Seen M l) (ht : t ∈ trs3) : Seen (M.put (kt t) (.lit (.bool true))) (t :: l) := by
  refine ⟨h.1.put _ _, fun s hs => ?_⟩
  by_cases e : s = t
  · subst e
    rw [Maps.atKey_put_same h.1 (law3.key (key3 ht))]
    simp
  · rw [Maps.atKey_put_other (fun e' => e (kt_inj hs ht e')), h.2 s hs]
    congr 3
    simp [e]
end Go.Proofs.Yteobaodabjdcaaa
