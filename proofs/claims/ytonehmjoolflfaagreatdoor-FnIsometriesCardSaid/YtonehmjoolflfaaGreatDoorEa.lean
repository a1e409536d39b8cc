
/- The walks of l10Code, elementCode. Words for what the functions on metrics return. The walks of l01Index, l01Has, slices.Index, slices.Contains: where a list holds a number. -/
import Derived.Test.YtonehmjoolflfaaGreatDoorI5
import Derived.WalkLawsBesides
namespace Go.Proofs.YtonehmjoolflfaaGreatDoor
open Go Go.RowKit Grp
set_option linter.unusedSimpArgs false
set_option linter.unusedVariables false

/-- The code of a metric and of elements. -/
noncomputable def codeE (os : List Int) (D : Int) (vs xs : List Int) : Int := if isM os D vs = true then if allIn 0 (prodL os - 1) xs = true then 0 else 2 else 1
theorem codeE_0 {os vs xs : List Int} {D : Int} (h : codeE os D vs xs = 0) : IsM os D vs ∧ allIn 0 (prodL os - 1) xs = true := by
  unfold codeE at h
  split at h
  · rename_i h1
    split at h
    · rename_i h2; exact ⟨isM_iff.1 h1, h2⟩
    · omega
  · omega
theorem allIn_gi {lo hi : Int} {xs : List Int} (h : allIn lo hi xs = true) {k : Nat} (hk : k < xs.length) : lo ≤ gi xs k ∧ gi xs k ≤ hi := by
  have := List.all_eq_true.1 h _ (gi_mem hk)
  simpa [inB] using this
theorem l10Is_v (b : Bool) (w : World) (A : Option Addr) (n c : Nat) (os : List Int) (D : Int) (A' : Option Addr) (n' c' : Nat) (vs : List Int) (h : Sl w w.heap.size A n c os) (h' : Sl w w.heap.size A' n' c' vs) (hn : n ≤ 1073741824) (hn' : n' ≤ 1073741824) (hb : isM os D vs = b) :
    Calls Tryz.prog 27 #[.agg #[.slice A n c, .int .i64 D, .slice A' n' c']] w (Re w (.bool b)) := hb ▸ l10Is_any w A n c os D A' n' c' vs h h' hn hn'
theorem implIs_v (b : Bool) (w : World) (A : Option Addr) (n c : Nat) (os : List Int) (D : Int) (A' : Option Addr) (n' c' : Nat) (vs : List Int) (h : Sl w w.heap.size A n c os) (h' : Sl w w.heap.size A' n' c' vs) (hn : n ≤ 1073741824) (hn' : n' ≤ 1073741824) (hb : isM os D vs = b) :
    Calls Tryz.prog 23 #[.agg #[.slice A n c, .int .i64 D, .slice A' n' c']] w (Re w (.bool b)) := hb ▸ implIs_any w A n c os D A' n' c' vs h h' hn hn'

set_option maxHeartbeats 1000000 in
theorem elementCode_any (w : World) (A : Option Addr) (n c : Nat) (os : List Int) (D : Int) (A' : Option Addr) (n' c' : Nat) (vs : List Int) (L : Option Addr) (l lc : Nat) (xs : List Int)
    (h : Sl w w.heap.size A n c os) (h' : Sl w w.heap.size A' n' c' vs) (hx : Sl w w.heap.size L l lc xs) (hn : n ≤ 1073741824) (hn' : n' ≤ 1073741824) (hl : l ≤ 1073741824) :
    Calls Tryz.prog 30 #[.agg #[.slice A n c, .int .i64 D, .slice A' n' c'], .slice L l lc] w (Re w (.int .i64 (codeE os D vs xs))) := by
  obtain rfl := h'.len
  cases hm : isM os D vs with
  | false =>
    have hC := hide (show codeE os D vs xs = 1 by unfold codeE; rw [hm]; rfl)
    go_enter Tryz.func30, Tryz.ntmps30
    go_wp2_with fail
    obtain ⟨W, hW⟩ : ∃ W, w.alloc (.cells #[.slice A n c, .int .i64 D, .slice A' vs.length c'] 26) = W := ⟨_, rfl⟩
    have hbW : Below w.heap.size w W := by rw [← hW]; exact (by repeat (first | assumption | exact Below.refl _ _ | apply below_drewN | apply Below.drew | apply Below.alloc | apply Below.setCell | omega | (focus (simp; done)) | (focus (simp; omega))))
    have hszW : w.heap.size < W.heap.size := by rw [← hW]; simp
    have q0 : W.cell? ⟨w.heap.size, 0, none⟩ = some (.slice A n c) := by rw [← hW]; exact (Blk.new _ _ _).cell 0
    have q1 : W.cell? ⟨w.heap.size, 1, none⟩ = some (.int .i64 D) := by rw [← hW]; exact (Blk.new _ _ _).cell 1
    have q2 : W.cell? ⟨w.heap.size, 2, none⟩ = some (.slice A' vs.length c') := by rw [← hW]; exact (Blk.new _ _ _).cell 2
    rw [hW]
    clear hW
    have hs := (h.below hbW).more (Nat.le_of_lt hszW)
    have hs' := (h'.below hbW).more (Nat.le_of_lt hszW)
    go_wp2_with fail
    refine (implIs_v false _ _ _ _ _ _ _ _ _ _ hs hs' hn hn' hm).mono ?_
    rintro e w2 ⟨rfl, hb2⟩
    go_wp2
    go_ret
    exact ⟨by rw [hC.out]; rfl, hbW.trans (hb2.mono (Nat.le_of_lt hszW))⟩
  | true =>
    have hM := isM_iff.1 hm
    have hL := hM.ok.len
    have h16 := hM.ok.lt
    have hw : IntKind.i64.wrap ((vs.length : Int) - 1) = (vs.length : Int) - 1 := wrap_in (by omega) (by omega)
    obtain ⟨b, hb⟩ : ∃ b, allIn 0 ((vs.length : Int) - 1) xs = b := ⟨_, rfl⟩
    have hC := hide (show codeE os D vs xs = if b = true then 0 else 2 by unfold codeE; rw [hm, ← hL, hb]; rfl)
    have hHL := hide hL
    clear hL
    go_enter Tryz.func30, Tryz.ntmps30
    go_wp2_with fail
    obtain ⟨W, hW⟩ : ∃ W, w.alloc (.cells #[.slice A n c, .int .i64 D, .slice A' vs.length c'] 26) = W := ⟨_, rfl⟩
    have hbW : Below w.heap.size w W := by rw [← hW]; exact (by repeat (first | assumption | exact Below.refl _ _ | apply below_drewN | apply Below.drew | apply Below.alloc | apply Below.setCell | omega | (focus (simp; done)) | (focus (simp; omega))))
    have hszW : w.heap.size < W.heap.size := by rw [← hW]; simp
    have q0 : W.cell? ⟨w.heap.size, 0, none⟩ = some (.slice A n c) := by rw [← hW]; exact (Blk.new _ _ _).cell 0
    have q1 : W.cell? ⟨w.heap.size, 1, none⟩ = some (.int .i64 D) := by rw [← hW]; exact (Blk.new _ _ _).cell 1
    have q2 : W.cell? ⟨w.heap.size, 2, none⟩ = some (.slice A' vs.length c') := by rw [← hW]; exact (Blk.new _ _ _).cell 2
    rw [hW]
    clear hW
    have hs := (h.below hbW).more (Nat.le_of_lt hszW)
    have hs' := (h'.below hbW).more (Nat.le_of_lt hszW)
    have hxs := (hx.below hbW).more (Nat.le_of_lt hszW)
    go_wp2_with fail
    refine (implIs_v true _ _ _ _ _ _ _ _ _ _ hs hs' hn hn' hm).mono ?_
    rintro e w2 ⟨rfl, hb2⟩
    have r0 := (hb2.cell (p := ⟨w.heap.size, 0, none⟩) hszW).trans q0
    have r1 := (hb2.cell (p := ⟨w.heap.size, 1, none⟩) hszW).trans q1
    have r2 := (hb2.cell (p := ⟨w.heap.size, 2, none⟩) hszW).trans q2
    go_wp2_with fail
    clear r0 r1 r2
    refine (size_any _ _ _ _ _ _).mono ?_
    rintro e w3 ⟨rfl, hb3⟩
    have k3 := hb2.trans (hb3.mono hb2.size)
    go_wp2_with fail
    refine (allWithin_v b _ _ _ _ _ _ _ ((hxs.below k3).more k3.size) hl hb).mono ?_
    rintro e w4 ⟨rfl, hb4⟩
    have k4 := k3.trans (hb4.mono k3.size)
    cases b with
    | true =>
      go_wp2
      go_ret
      exact ⟨by rw [hC.out]; rfl, hbW.trans (k4.mono (Nat.le_of_lt hszW))⟩
    | false =>
      go_wp2
      go_ret
      exact ⟨by rw [hC.out]; rfl, hbW.trans (k4.mono (Nat.le_of_lt hszW))⟩

/-- It returned a Bool and a code; what lay before lies as it lay. -/
def ReB (w : World) (a : Bool) (b : Int) (e : Ending) (w' : World) : Prop := e = .returned (.tuple #[.bool a, .int .i64 b]) ∧ Below w.heap.size w w'
noncomputable def codeM (os : List Int) (D : Int) (vs : List Int) : Int := if isM os D vs = true then 0 else 1
/-- It returned two numbers; what lay before lies as it lay. -/
def Re2 (w : World) (a b : Int) (e : Ending) (w' : World) : Prop := e = .returned (.tuple #[.int .i64 a, .int .i64 b]) ∧ Below w.heap.size w w'
theorem sl_two (W : World) (g : Nat) (hg : W.heap.size = g) (x y : Int) (hx : i64ok x) (hy : i64ok y) :
    Sl (W.alloc (.cells #[.int .i64 x, .int .i64 y] 2)) (W.alloc (.cells #[.int .i64 x, .int .i64 y] 2)).heap.size (some ⟨g, 0, none⟩) 2 2 [x, y] := by
  subst hg
  refine ⟨rfl, by omega, fun v hv => ?_, fun _ => ⟨_, _, rfl, by simp, fun k hk => ?_⟩, fun h => by cases h⟩
  · simp only [List.mem_cons, List.not_mem_nil, or_false] at hv
    rcases hv with rfl | rfl <;> assumption
  · refine ((Blk.new W _ _).cell (0 + k)).trans ?_
    obtain rfl | rfl : k = 0 ∨ k = 1 := by omega
    all_goals rfl
theorem sl_one (W : World) (g : Nat) (hg : W.heap.size = g) (x : Int) (hx : i64ok x) :
    Sl (W.alloc (.cells #[.int .i64 x] 2)) (W.alloc (.cells #[.int .i64 x] 2)).heap.size (some ⟨g, 0, none⟩) 1 1 [x] := by
  subst hg
  refine ⟨rfl, by omega, fun v hv => ?_, fun _ => ⟨_, _, rfl, by simp, fun k hk => ?_⟩, fun h => by cases h⟩
  · simp only [List.mem_cons, List.not_mem_nil, or_false] at hv
    subst hv; assumption
  · refine ((Blk.new W _ _).cell (0 + k)).trans ?_
    obtain rfl : k = 0 := by omega
    rfl

theorem Sl.tail {w : World} {B : Nat} {b off n c : Nat} {xs : List Int} (h : Sl w B (some ⟨b, off, none⟩) n c xs) (hn : 1 ≤ n) : Sl w B (some ⟨b, off + 1, none⟩) (n - 1) (c - 1) (xs.drop 1) := by
  refine ⟨by rw [List.length_drop, h.len], by have := h.cap; omega, fun x hx => h.rng x (List.mem_of_mem_drop hx), fun hp => ?_, fun h => by cases h⟩
  obtain ⟨b', off', e, hb, hc⟩ := h.at_ (by omega)
  cases e
  refine ⟨b, off + 1, rfl, hb, fun k hk => ?_⟩
  have := hc (k + 1) (by omega)
  rw [show off + 1 + k = off + (k + 1) by omega, this]
  congr 2
  unfold gi
  rw [List.getD_eq_getElem?_getD, List.getD_eq_getElem?_getD, List.getElem?_drop, Nat.add_comm 1 k]

/-- Does a list hold a number? -/
def hasB (xs : List Int) (v : Int) : Bool := xs.any fun x => x == v
/-- The first index of a number in a list, or -1. -/
def idxF (xs : List Int) (v : Int) : Int := if hasB xs v = true then ((xs.findIdx fun x => x == v : Nat) : Int) else -1
theorem hasB_iff {xs : List Int} {v : Int} : hasB xs v = true ↔ v ∈ xs := by simp [hasB]
theorem gi_ext {xs : List Int} {j : Nat} (hj : j < xs.length) : xs[j] = gi xs j := by unfold gi; rw [List.getD_eq_getElem?_getD, List.getElem?_eq_getElem hj]; rfl
theorem hasB_at {xs : List Int} {k : Nat} {v : Int} (hk : k < xs.length) (h : gi xs k = v) : hasB xs v = true := List.any_eq_true.2 ⟨_, gi_mem hk, by simpa using h⟩
theorem hasB_f {xs : List Int} {v : Int} (h : ∀ j, j < xs.length → gi xs j ≠ v) : hasB xs v = false := by
  refine Bool.eq_false_iff.2 fun ha => ?_
  obtain ⟨x, hx, he⟩ := List.any_eq_true.1 ha
  obtain ⟨j, hj, rfl⟩ := List.getElem_of_mem hx
  exact h j hj (by rw [← gi_ext hj]; simpa using he)
theorem idxF_at {xs : List Int} {k : Nat} {v : Int} (hk : k < xs.length) (h : gi xs k = v) (hp : ∀ j, j < k → gi xs j ≠ v) : idxF xs v = k := by
  unfold idxF
  rw [if_pos (hasB_at hk h)]
  congr 1
  rw [List.findIdx_eq hk]
  refine ⟨by rw [gi_ext hk]; simpa using h, fun j hj => ?_⟩
  rw [gi_ext (by omega)]
  simpa using hp j hj
theorem idxF_f {xs : List Int} {v : Int} (h : ∀ j, j < xs.length → gi xs j ≠ v) : idxF xs v = -1 := by unfold idxF; rw [hasB_f h]; rfl
theorem idxF_nonneg (xs : List Int) (v : Int) : decide (0 ≤ idxF xs v) = hasB xs v := by
  unfold idxF
  cases hasB xs v with
  | true => simp
  | false => rfl
theorem idxF_lt (xs : List Int) (v : Int) : -1 ≤ idxF xs v ∧ idxF xs v < xs.length := by
  unfold idxF
  split
  · rename_i h
    have : (xs.findIdx fun x => x == v) < xs.length := List.findIdx_lt_length.2 (by obtain ⟨x, hx, he⟩ := List.any_eq_true.1 h; exact ⟨x, hx, he⟩)
    omega
  · omega
theorem idxF_gi {xs : List Int} {v : Int} (h : hasB xs v = true) : gi xs (idxF xs v).toNat = v := by
  have hl : (xs.findIdx fun x => x == v) < xs.length := List.findIdx_lt_length.2 (by obtain ⟨x, hx, he⟩ := List.any_eq_true.1 h; exact ⟨x, hx, he⟩)
  unfold idxF
  rw [if_pos h, Int.toNat_natCast, ← gi_ext hl]
  have := List.findIdx_getElem (p := fun x => x == v) (w := hl)
  simpa using this

theorem sIndex_any (w : World) (B : Nat) (A : Option Addr) (n c : Nat) (xs : List Int) (v : Int) (h : Sl w B A n c xs) (hn : n ≤ 1073741824) :
    Calls Tryz.prog 95 #[.slice A n c, .int .i64 v] w (Qt w (.int .i64 (idxF xs v))) := by
  obtain rfl := h.len
  go_enter Tryz.func95, Tryz.ntmps95
  go_wp2_with fail
  go_loop [8] (fun i => ∃ k : Nat, k ≤ xs.length ∧ i = .int .i64 k ∧ (∀ j, j < k → gi xs j ≠ v)) (fun i => xs.length - (intOf i).toNat)
  case atStart => exact ⟨0, by omega, rfl, fun j hj => absurd hj (by omega)⟩
  case round =>
    obtain ⟨k, hk, rfl, hpre⟩ := hrel
    have hP := hide hpre
    clear hpre
    by_cases hlt : k < xs.length
    · obtain ⟨b, off, rfl, hb, hc⟩ := h.at_ (by omega)
      have c1 := hc k hlt
      clear hc
      by_cases hv : gi xs k = v
      · have hvb : (gi xs k == v) = true := by simpa using hv
        have hT := hide (idxF_at hlt hv hP.out)
        have hv' := hide hv
        clear hv
        go_wp2_with fail
        go_ret
        exact Qt.mk' 0 rfl (int_eq hT.out.symm)
      · have hvb : (gi xs k == v) = false := by simpa using hv
        have hv' := hide hv
        clear hv
        go_wp2_with fail
        go_round
        case rel => exact ⟨k + 1, by omega, by go_num, fun j hj => by rcases Nat.lt_succ_iff_lt_or_eq.1 hj with h | rfl; exact hP.out j h; exact hv'.out⟩
        case measure => simp [intOf] <;> omega
    · obtain rfl : k = xs.length := by omega
      have hF := hide (idxF_f fun j hj => hP.out j hj)
      go_wp2
      go_ret
      exact Qt.mk' 0 rfl (int_eq hF.out.symm)
theorem sContains_any (w : World) (B : Nat) (A : Option Addr) (n c : Nat) (xs : List Int) (v : Int) (h : Sl w B A n c xs) (hn : n ≤ 1073741824) :
    Calls Tryz.prog 63 #[.slice A n c, .int .i64 v] w (Qt w (.bool (hasB xs v))) := by
  have hN := hide (idxF_nonneg xs v)
  obtain ⟨r, hr⟩ : ∃ r, idxF xs v = r := ⟨_, rfl⟩
  rw [hr] at hN
  have hI := fun W h => sIndex_any W B A n c xs v h hn
  rw [hr] at hI
  clear hr
  go_enter Tryz.func63, Tryz.ntmps63
  go_wp2_with fail
  refine (hI _ h).mono ?_
  rintro e w' ⟨rfl, m, rfl⟩
  go_wp2
  go_ret
  exact Qt.mk' _ rfl (bool_eq hN.out)
end Go.Proofs.YtonehmjoolflfaaGreatDoor
