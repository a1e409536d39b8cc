
/- The walks of l10Code, elementCode. Words for what the functions on metrics return. The walks of l01Index, l01Has, slices.Index, slices.Contains: where a list holds a number. -/
import Derived.Test.YtbpihnpakolooaaGreatDoorI5
import Derived.WalkLawsBesides
namespace Go.Proofs.YtbpihnpakolooaaGreatDoor
open Go Go.RowKit Grp
set_option linter.unusedSimpArgs false
set_option linter.unusedVariables false

theorem l10Is_v (b : Bool) (w : World) (A : Option Addr) (n c : Nat) (os : List Int) (D : Int) (A' : Option Addr) (n' c' : Nat) (vs : List Int) (h : Sl w w.heap.size A n c os) (h' : Sl w w.heap.size A' n' c' vs) (hn : n ≤ 1048576) (hn' : n' ≤ 1048576) (hb : isM os D vs = b) :
  Calls Tryz.prog 66 #[.agg #[.slice A n c, .int .i64 D, .slice A' n' c']] w (Re w (.bool b)) := hb ▸ l10Is_any w A n c os D A' n' c' vs h h' hn hn'
theorem implIs_v (b : Bool) (w : World) (A : Option Addr) (n c : Nat) (os : List Int) (D : Int) (A' : Option Addr) (n' c' : Nat) (vs : List Int) (h : Sl w w.heap.size A n c os) (h' : Sl w w.heap.size A' n' c' vs) (hn : n ≤ 1048576) (hn' : n' ≤ 1048576) (hb : isM os D vs = b) :
  Calls Tryz.prog 53 #[.agg #[.slice A n c, .int .i64 D, .slice A' n' c']] w (Re w (.bool b)) := hb ▸ implIs_any w A n c os D A' n' c' vs h h' hn hn'


/-- It returned a Bool and a code; what lay before lies as it lay. -/
def ReB (w : World) (a : Bool) (b : Int) (e : Ending) (w' : World) : Prop := e = .returned (.tuple #[.bool a, .int .i64 b]) ∧ Below w.heap.size w w'
noncomputable def codeM (os : List Int) (D : Int) (vs : List Int) : Int := if isM os D vs = true then 0 else 1

theorem Sl.tail {w : World} {B : Nat} {b off n c : Nat} {xs : List Int} (h : Sl w B (some ⟨b, off, none⟩) n c xs) (hn : 1 ≤ n) : Sl w B (some ⟨b, off + 1, none⟩) (n - 1) (c - 1) (xs.drop 1) := by
 refine ⟨by rw [List.length_drop, h.len], by have := h.cap; omega, fun x hx => h.rng x (List.mem_of_mem_drop hx), fun hp => ?_, fun h => by cases h⟩
 obtain ⟨b', off', e, hb, hc⟩ := h.at_ (by omega)
 cases e
 refine ⟨b, off + 1, rfl, hb, fun k hk => ?_⟩
 have := hc (k + 1) (by omega)
 rw [show off + 1 + k = off + (k + 1) by omega, this]
 congr 2
 unfold gi
 rw [List.getD_eq_getElem?_getD, List.getD_eq_getElem?_getD, List.getElem?_drop, Nat.add_comm 1 k]

/-- Does a list hold a number? -/
def hasB (xs : List Int) (v : Int) : Bool := xs.any fun x => x == v
/-- The first index of a number in a list, or -1. -/
def idxF (xs : List Int) (v : Int) : Int := if hasB xs v = true then ((xs.findIdx fun x => x == v : Nat) : Int) else -1
theorem hasB_iff {xs : List Int} {v : Int} : hasB xs v = true ↔ v ∈ xs := by simp [hasB]
theorem gi_ext {xs : List Int} {j : Nat} (hj : j < xs.length) : xs[j] = gi xs j := by unfold gi; rw [List.getD_eq_getElem?_getD, List.getElem?_eq_getElem hj]; rfl
theorem hasB_at {xs : List Int} {k : Nat} {v : Int} (hk : k < xs.length) (h : gi xs k = v) : hasB xs v = true := List.any_eq_true.2 ⟨_, gi_mem hk, by simpa using h⟩
theorem hasB_f {xs : List Int} {v : Int} (h : ∀ j, j < xs.length → gi xs j ≠ v) : hasB xs v = false := by
 refine Bool.eq_false_iff.2 fun ha => ?_
 obtain ⟨x, hx, he⟩ := List.any_eq_true.1 ha
 obtain ⟨j, hj, rfl⟩ := List.getElem_of_mem hx
 exact h j hj (by rw [← gi_ext hj]; simpa using he)
theorem idxF_at {xs : List Int} {k : Nat} {v : Int} (hk : k < xs.length) (h : gi xs k = v) (hp : ∀ j, j < k → gi xs j ≠ v) : idxF xs v = k := by
 unfold idxF
 rw [if_pos (hasB_at hk h)]
 congr 1
 rw [List.findIdx_eq hk]
 refine ⟨by rw [gi_ext hk]; simpa using h, fun j hj => ?_⟩
 rw [gi_ext (by omega)]
 simpa using hp j hj
theorem idxF_f {xs : List Int} {v : Int} (h : ∀ j, j < xs.length → gi xs j ≠ v) : idxF xs v = -1 := by unfold idxF; rw [hasB_f h]; rfl
theorem idxF_nonneg (xs : List Int) (v : Int) : decide (0 ≤ idxF xs v) = hasB xs v := by
 unfold idxF
 cases hasB xs v with
 | true => simp
 | false => rfl
theorem idxF_lt (xs : List Int) (v : Int) : -1 ≤ idxF xs v ∧ idxF xs v < xs.length := by
 unfold idxF
 split
 ·rename_i h
  have : (xs.findIdx fun x => x == v) < xs.length := List.findIdx_lt_length.2 (by obtain ⟨x, hx, he⟩ := List.any_eq_true.1 h; exact ⟨x, hx, he⟩)
  omega
 ·omega

theorem l01Index_any (w : World) (B : Nat) (A : Option Addr) (n c : Nat) (xs : List Int) (v : Int) (h : Sl w B A n c xs) (hn : n ≤ 1048576) :
  Calls Tryz.prog 95 #[.slice A n c, .int .i64 v] w (Qt w (.int .i64 (idxF xs v))) := by
 obtain rfl := h.len
 go_enter Tryz.func95, Tryz.ntmps95
 go_wp2_with fail
 go_loop [5] (fun i => ∃ k : Nat, k ≤ xs.length ∧ i = .int .i64 k ∧ (∀ j, j < k → gi xs j ≠ v)) (fun i => xs.length - (intOf i).toNat)
 case atStart => exact ⟨0, by omega, rfl, fun j hj => absurd hj (by omega)⟩
 case round =>
  obtain ⟨k, hk, rfl, hpre⟩ := hrel
  have hP := hide hpre
  clear hpre
  by_cases hlt : k < xs.length
  ·obtain ⟨b, off, rfl, hb, hc⟩ := h.at_ (by omega)
   have c1 := hc k hlt
   clear hc
   by_cases hv : gi xs k = v
   ·have hvb : (gi xs k == v) = true := by simpa using hv
    have hT := hide (idxF_at hlt hv hP.out)
    have hv' := hide hv
    clear hv
    go_wp2_with fail
    go_ret
    exact Qt.mk' 0 rfl (int_eq hT.out.symm)
   ·have hvb : (gi xs k == v) = false := by simpa using hv
    have hv' := hide hv
    clear hv
    go_wp2_with fail
    go_round
    case rel => exact ⟨k + 1, by omega, by go_num, fun j hj => by rcases Nat.lt_succ_iff_lt_or_eq.1 hj with h | rfl; exact hP.out j h; exact hv'.out⟩
    case measure => simp [intOf] <;> omega
  ·obtain rfl : k = xs.length := by omega
   have hF := hide (idxF_f fun j hj => hP.out j hj)
   go_wp2
   go_ret
   exact Qt.mk' 0 rfl (int_eq hF.out.symm)
theorem l01Has_any (w : World) (B : Nat) (A : Option Addr) (n c : Nat) (xs : List Int) (v : Int) (h : Sl w B A n c xs) (hn : n ≤ 1048576) :
  Calls Tryz.prog 132 #[.slice A n c, .int .i64 v] w (Qt w (.bool (hasB xs v))) := by
 have hN := hide (idxF_nonneg xs v)
 obtain ⟨r, hr⟩ : ∃ r, idxF xs v = r := ⟨_, rfl⟩
 rw [hr] at hN
 have hI := fun W h => l01Index_any W B A n c xs v h hn
 rw [hr] at hI
 clear hr
 go_enter Tryz.func132, Tryz.ntmps132
 go_wp2_with fail
 refine (hI _ h).mono ?_
 rintro e w' ⟨rfl, m, rfl⟩
 go_wp2
 go_ret
 exact Qt.mk' _ rfl (bool_eq hN.out)
theorem sIndex_any (w : World) (B : Nat) (A : Option Addr) (n c : Nat) (xs : List Int) (v : Int) (h : Sl w B A n c xs) (hn : n ≤ 1048576) :
  Calls Tryz.prog 122 #[.slice A n c, .int .i64 v] w (Qt w (.int .i64 (idxF xs v))) := by
 obtain rfl := h.len
 go_enter Tryz.func122, Tryz.ntmps122
 go_wp2_with fail
 go_loop [8] (fun i => ∃ k : Nat, k ≤ xs.length ∧ i = .int .i64 k ∧ (∀ j, j < k → gi xs j ≠ v)) (fun i => xs.length - (intOf i).toNat)
 case atStart => exact ⟨0, by omega, rfl, fun j hj => absurd hj (by omega)⟩
 case round =>
  obtain ⟨k, hk, rfl, hpre⟩ := hrel
  have hP := hide hpre
  clear hpre
  by_cases hlt : k < xs.length
  ·obtain ⟨b, off, rfl, hb, hc⟩ := h.at_ (by omega)
   have c1 := hc k hlt
   clear hc
   by_cases hv : gi xs k = v
   ·have hvb : (gi xs k == v) = true := by simpa using hv
    have hT := hide (idxF_at hlt hv hP.out)
    have hv' := hide hv
    clear hv
    go_wp2_with fail
    go_ret
    exact Qt.mk' 0 rfl (int_eq hT.out.symm)
   ·have hvb : (gi xs k == v) = false := by simpa using hv
    have hv' := hide hv
    clear hv
    go_wp2_with fail
    go_round
    case rel => exact ⟨k + 1, by omega, by go_num, fun j hj => by rcases Nat.lt_succ_iff_lt_or_eq.1 hj with h | rfl; exact hP.out j h; exact hv'.out⟩
    case measure => simp [intOf] <;> omega
  ·obtain rfl : k = xs.length := by omega
   have hF := hide (idxF_f fun j hj => hP.out j hj)
   go_wp2
   go_ret
   exact Qt.mk' 0 rfl (int_eq hF.out.symm)
theorem sContains_any (w : World) (B : Nat) (A : Option Addr) (n c : Nat) (xs : List Int) (v : Int) (h : Sl w B A n c xs) (hn : n ≤ 1048576) :
  Calls Tryz.prog 71 #[.slice A n c, .int .i64 v] w (Qt w (.bool (hasB xs v))) := by
 have hN := hide (idxF_nonneg xs v)
 obtain ⟨r, hr⟩ : ∃ r, idxF xs v = r := ⟨_, rfl⟩
 rw [hr] at hN
 have hI := fun W h => sIndex_any W B A n c xs v h hn
 rw [hr] at hI
 clear hr
 go_enter Tryz.func71, Tryz.ntmps71
 go_wp2_with fail
 refine (hI _ h).mono ?_
 rintro e w' ⟨rfl, m, rfl⟩
 go_wp2
 go_ret
 exact Qt.mk' _ rfl (bool_eq hN.out)
end Go.Proofs.YtbpihnpakolooaaGreatDoor
