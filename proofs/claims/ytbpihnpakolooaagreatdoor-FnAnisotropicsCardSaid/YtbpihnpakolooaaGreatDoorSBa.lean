
/- The walks of SubgroupFrom of both sides. The walks of IsSubgroup, IsIsotropicSubgroup, OrthogonalSubgroup of both sides. FnSubgroups, plain: what the functions on subgroups return fits together. -/
import Derived.Test.YtbpihnpakolooaaGreatDoorMWy
import Derived.Test.YtbpihnpakolooaaGreatDoorU2a
import Derived.Test.YtbpihnpakolooaaGreatDoorLa
import Derived.WalkLawsBesides
import Derived.Test.YtbpihnpakolooaaGreatDoorRUa
import Derived.Test.YtbpihnpakolooaaGreatDoorCma
import Derived.Test.YtbpihnpakolooaaGreatDoorMWz
namespace Go.Proofs.YtbpihnpakolooaaGreatDoor
open Go Go.RowKit Grp
set_option linter.unusedSimpArgs false
set_option linter.unusedVariables false
set_option maxRecDepth 100000

theorem IsLst.lt {N : Int} {xs : List Int} (h : IsLst N xs) : xs.Pairwise (· < ·) := by
 rw [List.pairwise_iff_getElem]
 intro i j hi hj hij
 have key : ∀ d, i + 1 + d < xs.length → gi xs i < gi xs (i + 1 + d) := by
  intro d
  induction d with
  | zero => intro hl; have := (h (i + 1) hl).2 (by omega); simpa using this
  | succ d ih =>
   intro hl
   have h1 := ih (by omega)
   have h2 := (h (i + 1 + (d + 1)) hl).2 (by omega)
   rw [show i + 1 + (d + 1) - 1 = i + 1 + d by omega] at h2
   omega
 have h1 := key (j - (i + 1)) (by omega)
 rw [show i + 1 + (j - (i + 1)) = j by omega] at h1
 have e : ∀ (k : Nat) (hk : k < xs.length), gi xs k = xs[k] := fun k hk => by unfold gi; rw [List.getD_eq_getElem?_getD, List.getElem?_eq_getElem hk]; rfl
 rw [e i hi, e j hj] at h1
 exact h1
theorem lst_of {N : Int} {xs : List Int} (hp : xs.Pairwise (· < ·)) (hr : ∀ x ∈ xs, 0 ≤ x ∧ x < N) : IsLst N xs := by
 intro j hj
 have e : ∀ (k : Nat) (hk : k < xs.length), gi xs k = xs[k] := fun k hk => by unfold gi; rw [List.getD_eq_getElem?_getD, List.getElem?_eq_getElem hk]; rfl
 refine ⟨inB_t (hr _ (gi_mem hj)).1 (by have := (hr _ (gi_mem hj)).2; omega), fun h0 => ?_⟩
 rw [e _ (show j - 1 < xs.length by omega), e j hj]
 exact List.pairwise_iff_getElem.1 hp _ _ _ _ (by omega)
section
variable {os vs xs : List Int} {D : Int}
theorem codeL_t (hM : IsM os D vs) (h : IsLst (prodL os) xs) : codeL os D vs xs = 0 := by unfold codeL; rw [if_pos (isM_t hM), if_pos (lstB_t h)]
theorem codeS_t (hM : IsM os D vs) (h : IsLst (prodL os) xs) (hc : clB os xs = true) : codeS os D vs xs = 0 := by unfold codeS; rw [if_pos (codeL_t hM h), if_pos hc]
theorem msk_all (hM : IsM os D vs) (hH : SbM os vs xs) : ((msk xs : Nat) : Int) ∈ sgK os vs.length := by
 unfold sgK
 refine List.mem_map.2 ⟨msk xs, mem_allK.2 ⟨msk_lt fun x hx => hH.rng x hx, ?_⟩, rfl⟩
 rw [mems_msk hH.lt hH.rng]
 exact hH.sb
theorem ndgM_iff (hM : IsM os D vs) : ndgM os D vs = true ↔ Ndg os D vs := by
 unfold ndgM
 rw [isM_t hM, Bool.true_and, decide_eq_true_eq]
 exact ndg_iff hM
end
end Go.Proofs.YtbpihnpakolooaaGreatDoor
