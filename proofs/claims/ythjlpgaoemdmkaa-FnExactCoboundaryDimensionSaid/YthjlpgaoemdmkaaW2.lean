
/- The walks of the small functions of package laws on metrics. -/
import Derived.Test.YthjlpgaoemdmkaaW1
namespace Go.Proofs.Ythjlpgaoemdmkaa
open Go Go.RowKit

/-- What heldMetric returns. -/
def heldM (k : Int) (os vs : List Int) : Int := if heldI k os < 0 then -1 else if heldI (heldI k os) vs < 0 then -1 else heldI (heldI k os) vs
theorem heldM_1 {k : Int} {os vs : List Int} (h : heldI k os < 0) : heldM k os vs = -1 := by unfold heldM; rw [if_pos h]
theorem heldM_2 {k : Int} {os vs : List Int} (h : 0 ≤ heldI k os) (h2 : heldI (heldI k os) vs < 0) : heldM k os vs = -1 := by unfold heldM; rw [if_neg (by omega), if_pos h2]
theorem heldM_3 {k : Int} {os vs : List Int} (h : 0 ≤ heldI k os) (h2 : 0 ≤ heldI (heldI k os) vs) : heldM k os vs = heldI (heldI k os) vs := by unfold heldM; rw [if_neg (by omega), if_neg (by omega)]
theorem heldI_le (xs : List Int) : ∀ k : Int, 0 ≤ k → heldI k xs ≤ k + xs.length := by
  induction xs with
  | nil => intro k _; simp [heldI]
  | cons x xs ih =>
    intro k hk
    unfold heldI
    split
    · have := ih (k + 1) (by omega); simp at this ⊢; omega
    · simp; omega
/-- The metric's two slices, which held os and vs, now hold k, k + 1, ..; whatever else lay before lies as it lay. -/
def MrkM (w : World) (B : Nat) (v1 v2 : Value) (os vs : List Int) (k : Int) (e : Ending) (w' : World) : Prop :=
  e = .returned (.int .i64 (k + os.length + vs.length)) ∧ Ow w' B v1 (marks k os.length) ∧ Ow w' B v2 (marks (k + os.length) vs.length) ∧
  w'.os = w.os ∧ w'.tape = w.tape ∧ w'.output = w.output ∧ w.heap.size ≤ w'.heap.size ∧ (∀ b, b < w.heap.size → v1.ownBlock ≠ some b → v2.ownBlock ≠ some b → w'.heap[b]? = w.heap[b]?)
section
variable {w w' : World} {B : Nat} {v1 v2 : Value} {os vs : List Int} {k : Int} {e : Ending}
theorem marks_rng (q : Int) (n : Nat) (h0 : 0 ≤ q) (h1 : q ≤ 1000000000) (hn : n ≤ 1048576) : ∀ x ∈ marks q n, i64ok x := by
  intro x hx
  simp only [marks, List.mem_map, List.mem_range] at hx
  obtain ⟨j, hj, rfl⟩ := hx
  exact ⟨by omega, by omega⟩
theorem MrkM.keep (h : MrkM w B v1 v2 os vs k e w') {C : Nat} (hC : C ≤ B) (hw : C ≤ w.heap.size) (h1 : Ow w B v1 os) (h2 : Ow w B v2 vs) : Below C w w' :=
  ⟨h.2.2.2.1, h.2.2.2.2.1, h.2.2.2.2.2.1, h.2.2.2.2.2.2.1, fun b hb => h.2.2.2.2.2.2.2 b (by omega) (fun e => by have := h1.lt _ e; omega) (fun e => by have := h2.lt _ e; omega)⟩
theorem MrkM.blk (h : MrkM w B v1 v2 os vs k e w') {g : Nat} {t : TypeId} {cs : Array Value} (hb : Blk w g t cs) (hne : t ≠ 2) (h1 : Ow w B v1 os) (h2 : Ow w B v2 vs) : Blk w' g t cs :=
  (h.2.2.2.2.2.2.2 g hb.lt (h1.blk_ne hb hne) (h2.blk_ne hb hne)).trans hb
end
end Go.Proofs.Ythjlpgaoemdmkaa
