/- The walks of l10Code, elementCode. -/
import Derived.Test.YtmnljlefjafcdaaI5
import Derived.WalkLawsBesides
namespace Go.Proofs.Ytmnljlefjafcdaa
open Go Go.RowKit Grp
set_option linter.unusedSimpArgs false
set_option linter.unusedVariables false

/-- The code of a metric and of elements. -/
noncomputable def codeE (os : List Int) (D : Int) (vs xs : List Int) : Int := if isM os D vs = true then if allIn 0 (prodL os - 1) xs = true then 0 else 2 else 1
theorem codeE_0 {os vs xs : List Int} {D : Int} (h : codeE os D vs xs = 0) : IsM os D vs ∧ allIn 0 (prodL os - 1) xs = true := by
  unfold codeE at h
  split at h
  · rename_i h1
    split at h
    · rename_i h2; exact ⟨isM_iff.1 h1, h2⟩
    · omega
  · omega
theorem allIn_gi {lo hi : Int} {xs : List Int} (h : allIn lo hi xs = true) {k : Nat} (hk : k < xs.length) : lo ≤ gi xs k ∧ gi xs k ≤ hi := by
  have := List.all_eq_true.1 h _ (gi_mem hk)
  simpa [inB] using this
theorem l10Is_v (b : Bool) (w : World) (A : Option Addr) (n c : Nat) (os : List Int) (D : Int) (A' : Option Addr) (n' c' : Nat) (vs : List Int) (h : Sl w w.heap.size A n c os) (h' : Sl w w.heap.size A' n' c' vs) (hn : n ≤ 1048576) (hn' : n' ≤ 1048576) (hb : isM os D vs = b) :
    Calls Try.prog 52 #[.agg #[.slice A n c, .int .i64 D, .slice A' n' c']] w (Re w (.bool b)) := hb ▸ l10Is_any w A n c os D A' n' c' vs h h' hn hn'
theorem implIs_v (b : Bool) (w : World) (A : Option Addr) (n c : Nat) (os : List Int) (D : Int) (A' : Option Addr) (n' c' : Nat) (vs : List Int) (h : Sl w w.heap.size A n c os) (h' : Sl w w.heap.size A' n' c' vs) (hn : n ≤ 1048576) (hn' : n' ≤ 1048576) (hb : isM os D vs = b) :
    Calls Try.prog 54 #[.agg #[.slice A n c, .int .i64 D, .slice A' n' c']] w (Re w (.bool b)) := hb ▸ implIs_any w A n c os D A' n' c' vs h h' hn hn'

end Go.Proofs.Ytmnljlefjafcdaa
