/- The walks of AddElements, NegateElement, PairElements, of both sides. -/
import Derived.Test.YtpafkgfjbdhpkaaE1
import Derived.WalkLawsBesides
namespace Go.Proofs.Ytpafkgfjbdhpkaa
open Go Go.RowKit Grp
set_option linter.unusedSimpArgs false
set_option linter.unusedVariables false

/-- It returned two numbers; what lay before lies as it lay. -/
def Re2 (w : World) (a b : Int) (e : Ending) (w' : World) : Prop := e = .returned (.tuple #[.int .i64 a, .int .i64 b]) ∧ Below w.heap.size w w'
theorem sl_two (W : World) (g : Nat) (hg : W.heap.size = g) (x y : Int) (hx : i64ok x) (hy : i64ok y) :
    Sl (W.alloc (.cells #[.int .i64 x, .int .i64 y] 2)) (W.alloc (.cells #[.int .i64 x, .int .i64 y] 2)).heap.size (some ⟨g, 0, none⟩) 2 2 [x, y] := by
  subst hg
  refine ⟨rfl, by omega, fun v hv => ?_, fun _ => ⟨_, _, rfl, by simp, fun k hk => ?_⟩⟩
  · simp only [List.mem_cons, List.not_mem_nil, or_false] at hv
    rcases hv with rfl | rfl <;> assumption
  · refine ((Blk.new W _ _).cell (0 + k)).trans ?_
    obtain rfl | rfl : k = 0 ∨ k = 1 := by omega
    all_goals rfl
theorem sl_one (W : World) (g : Nat) (hg : W.heap.size = g) (x : Int) (hx : i64ok x) :
    Sl (W.alloc (.cells #[.int .i64 x] 2)) (W.alloc (.cells #[.int .i64 x] 2)).heap.size (some ⟨g, 0, none⟩) 1 1 [x] := by
  subst hg
  refine ⟨rfl, by omega, fun v hv => ?_, fun _ => ⟨_, _, rfl, by simp, fun k hk => ?_⟩⟩
  · simp only [List.mem_cons, List.not_mem_nil, or_false] at hv
    subst hv; assumption
  · refine ((Blk.new W _ _).cell (0 + k)).trans ?_
    obtain rfl : k = 0 := by omega
    rfl

set_option maxHeartbeats 1000000 in
theorem spec_Add_any (w : World) (A : Option Addr) (n c : Nat) (os : List Int) (D : Int) (A' : Option Addr) (n' c' : Nat) (vs : List Int) (x y : Int) (hx : i64ok x) (hy : i64ok y) (h : Sl w w.heap.size A n c os) (h' : Sl w w.heap.size A' n' c' vs) (hn : n ≤ 1048576) (hn' : n' ≤ 1048576) :
    Calls Try.prog 22 #[.agg #[.slice A n c, .int .i64 D, .slice A' n' c'], .int .i64 x, .int .i64 y] w (Re2 w (if codeE os D vs [x, y] = 0 then (Ar os x y) else 0) (codeE os D vs [x, y])) := by
  obtain rfl := h'.len
  have hcode := fun W A n c A' n' c' LL l lc => l10Code_any W A n c os D A' n' c' vs LL l lc [x, y]
  obtain ⟨k, hk⟩ : ∃ k, codeE os D vs [x, y] = k := ⟨_, rfl⟩
  have h0 : k = 0 → IsM os D vs ∧ allIn 0 (prodL os - 1) [x, y] = true := fun e => codeE_0 (hk.trans e)
  rw [hk] at hcode ⊢
  clear hk
  by_cases hk0 : k = 0
  · subst hk0
    obtain ⟨hM, hin⟩ := h0 rfl
    clear h0
    rw [if_pos rfl]
    have hG := hM.ok.g
    have hp16 := hG.p16
    have hxr : 0 ≤ x ∧ x ≤ prodL os - 1 := allIn_gi hin (k := 0) (by simp)
    have hyr : 0 ≤ y ∧ y ≤ prodL os - 1 := allIn_gi hin (k := 1) (by simp)
    have hin' := hide hin
    clear hin
    go_enter Try.func22, Try.ntmps22
    go_wp2_with fail
    obtain ⟨W, hW⟩ : ∃ W, w.alloc (.cells #[.slice A n c, .int .i64 D, .slice A' vs.length c'] 27) = W := ⟨_, rfl⟩
    have hbW : Below w.heap.size w W := by rw [← hW]; exact (by repeat (first | assumption | exact Below.refl _ _ | apply below_drewN | apply Below.drew | apply Below.alloc | apply Below.setCell | omega | (focus (simp; done)) | (focus (simp; omega))))
    have hszW : w.heap.size < W.heap.size := by rw [← hW]; simp
    have hsW := hide (show W.heap.size = w.heap.size + 1 by rw [← hW]; simp)
    have q0 : W.cell? ⟨w.heap.size, 0, none⟩ = some (.slice A n c) := by rw [← hW]; exact (Blk.new _ _ _).cell 0
    have q1 : W.cell? ⟨w.heap.size, 1, none⟩ = some (.int .i64 D) := by rw [← hW]; exact (Blk.new _ _ _).cell 1
    have q2 : W.cell? ⟨w.heap.size, 2, none⟩ = some (.slice A' vs.length c') := by rw [← hW]; exact (Blk.new _ _ _).cell 2
    rw [hW]
    clear hW
    have hs := (h.below hbW).more (Nat.le_of_lt hszW)
    have hs' := (h'.below hbW).more (Nat.le_of_lt hszW)
    have hsl : ∀ wd, Below W.heap.size W wd → Sl wd wd.heap.size A n c os := fun wd h => (hs.below h).more h.size
    have hsv : ∀ wd, Below W.heap.size W wd → Sl wd wd.heap.size A' vs.length c' vs := fun wd h => (hs'.below h).more h.size
    refine (hcode _ _ _ _ _ _ _ _ _ _ (hsl _ ((Below.refl _ _).alloc (Nat.le_refl _) _)) (hsv _ ((Below.refl _ _).alloc (Nat.le_refl _) _)) (sl_two _ _ hsW.out _ _ hx hy) hn hn' (by omega)).mono ?_
    rintro e w2 ⟨rfl, hb2⟩
    have k2 := ((Below.refl W.heap.size W).alloc (Nat.le_refl _) _).trans (hb2.mono (by simp))
    have r0 := (k2.cell (p := ⟨w.heap.size, 0, none⟩) hszW).trans q0
    have r1 := (k2.cell (p := ⟨w.heap.size, 1, none⟩) hszW).trans q1
    have r2 := (k2.cell (p := ⟨w.heap.size, 2, none⟩) hszW).trans q2
    go_wp2_with fail
    refine ((l10Add_any _ _ _ _ _ _ _ _ (hsl _ k2) hG (by omega) (by omega) (by omega) (by omega)).mono fun _ _ h => Qt.re h).mono ?_
    rintro e w3 ⟨rfl, hb3⟩
    have k3 := k2.trans (hb3.mono k2.size)
    go_wp2
    refine bodyPost_ret (v := .tuple #[.int .i64 (Ar os x y), .int .i64 0]) (by simp [results, Try.results22, go_sem]) rfl ?_
    exact ⟨rfl, hbW.trans (k3.mono (Nat.le_of_lt hszW))⟩
  · clear h0
    rw [if_neg hk0]
    have hkb : (k != 0) = true := by simpa using hk0
    go_enter Try.func22, Try.ntmps22
    go_wp2_with fail
    obtain ⟨W, hW⟩ : ∃ W, w.alloc (.cells #[.slice A n c, .int .i64 D, .slice A' vs.length c'] 27) = W := ⟨_, rfl⟩
    have hbW : Below w.heap.size w W := by rw [← hW]; exact (by repeat (first | assumption | exact Below.refl _ _ | apply below_drewN | apply Below.drew | apply Below.alloc | apply Below.setCell | omega | (focus (simp; done)) | (focus (simp; omega))))
    have hszW : w.heap.size < W.heap.size := by rw [← hW]; simp
    have hsW := hide (show W.heap.size = w.heap.size + 1 by rw [← hW]; simp)
    have q0 : W.cell? ⟨w.heap.size, 0, none⟩ = some (.slice A n c) := by rw [← hW]; exact (Blk.new _ _ _).cell 0
    have q1 : W.cell? ⟨w.heap.size, 1, none⟩ = some (.int .i64 D) := by rw [← hW]; exact (Blk.new _ _ _).cell 1
    have q2 : W.cell? ⟨w.heap.size, 2, none⟩ = some (.slice A' vs.length c') := by rw [← hW]; exact (Blk.new _ _ _).cell 2
    rw [hW]
    clear hW
    have hs := (h.below hbW).more (Nat.le_of_lt hszW)
    have hs' := (h'.below hbW).more (Nat.le_of_lt hszW)
    have hsl : ∀ wd, Below W.heap.size W wd → Sl wd wd.heap.size A n c os := fun wd h => (hs.below h).more h.size
    have hsv : ∀ wd, Below W.heap.size W wd → Sl wd wd.heap.size A' vs.length c' vs := fun wd h => (hs'.below h).more h.size
    refine (hcode _ _ _ _ _ _ _ _ _ _ (hsl _ ((Below.refl _ _).alloc (Nat.le_refl _) _)) (hsv _ ((Below.refl _ _).alloc (Nat.le_refl _) _)) (sl_two _ _ hsW.out _ _ hx hy) hn hn' (by omega)).mono ?_
    rintro e w2 ⟨rfl, hb2⟩
    have k2 := ((Below.refl W.heap.size W).alloc (Nat.le_refl _) _).trans (hb2.mono (by simp))
    go_wp2_with fail
    refine bodyPost_ret (v := .tuple #[.int .i64 0, .int .i64 k]) (by simp [results, Try.results22, go_sem]) rfl ?_
    exact ⟨rfl, hbW.trans (k2.mono (Nat.le_of_lt hszW))⟩
set_option maxHeartbeats 1000000 in
theorem impl_Add_any (w : World) (A : Option Addr) (n c : Nat) (os : List Int) (D : Int) (A' : Option Addr) (n' c' : Nat) (vs : List Int) (x y : Int) (hx : i64ok x) (hy : i64ok y) (h : Sl w w.heap.size A n c os) (h' : Sl w w.heap.size A' n' c' vs) (hn : n ≤ 1048576) (hn' : n' ≤ 1048576) :
    Calls Try.prog 23 #[.agg #[.slice A n c, .int .i64 D, .slice A' n' c'], .int .i64 x, .int .i64 y] w (Re2 w (if codeE os D vs [x, y] = 0 then (Ar os x y) else 0) (codeE os D vs [x, y])) := by
  obtain rfl := h'.len
  have hcode := fun W A n c A' n' c' LL l lc => elementCode_any W A n c os D A' n' c' vs LL l lc [x, y]
  obtain ⟨k, hk⟩ : ∃ k, codeE os D vs [x, y] = k := ⟨_, rfl⟩
  have h0 : k = 0 → IsM os D vs ∧ allIn 0 (prodL os - 1) [x, y] = true := fun e => codeE_0 (hk.trans e)
  rw [hk] at hcode ⊢
  clear hk
  by_cases hk0 : k = 0
  · subst hk0
    obtain ⟨hM, hin⟩ := h0 rfl
    clear h0
    rw [if_pos rfl]
    have hG := hM.ok.g
    have hp16 := hG.p16
    have hxr : 0 ≤ x ∧ x ≤ prodL os - 1 := allIn_gi hin (k := 0) (by simp)
    have hyr : 0 ≤ y ∧ y ≤ prodL os - 1 := allIn_gi hin (k := 1) (by simp)
    have hin' := hide hin
    clear hin
    go_enter Try.func23, Try.ntmps23
    go_wp2_with fail
    obtain ⟨W, hW⟩ : ∃ W, w.alloc (.cells #[.slice A n c, .int .i64 D, .slice A' vs.length c'] 27) = W := ⟨_, rfl⟩
    have hbW : Below w.heap.size w W := by rw [← hW]; exact (by repeat (first | assumption | exact Below.refl _ _ | apply below_drewN | apply Below.drew | apply Below.alloc | apply Below.setCell | omega | (focus (simp; done)) | (focus (simp; omega))))
    have hszW : w.heap.size < W.heap.size := by rw [← hW]; simp
    have hsW := hide (show W.heap.size = w.heap.size + 1 by rw [← hW]; simp)
    have q0 : W.cell? ⟨w.heap.size, 0, none⟩ = some (.slice A n c) := by rw [← hW]; exact (Blk.new _ _ _).cell 0
    have q1 : W.cell? ⟨w.heap.size, 1, none⟩ = some (.int .i64 D) := by rw [← hW]; exact (Blk.new _ _ _).cell 1
    have q2 : W.cell? ⟨w.heap.size, 2, none⟩ = some (.slice A' vs.length c') := by rw [← hW]; exact (Blk.new _ _ _).cell 2
    rw [hW]
    clear hW
    have hs := (h.below hbW).more (Nat.le_of_lt hszW)
    have hs' := (h'.below hbW).more (Nat.le_of_lt hszW)
    have hsl : ∀ wd, Below W.heap.size W wd → Sl wd wd.heap.size A n c os := fun wd h => (hs.below h).more h.size
    have hsv : ∀ wd, Below W.heap.size W wd → Sl wd wd.heap.size A' vs.length c' vs := fun wd h => (hs'.below h).more h.size
    refine (hcode _ _ _ _ _ _ _ _ _ _ (hsl _ ((Below.refl _ _).alloc (Nat.le_refl _) _)) (hsv _ ((Below.refl _ _).alloc (Nat.le_refl _) _)) (sl_two _ _ hsW.out _ _ hx hy) hn hn' (by omega)).mono ?_
    rintro e w2 ⟨rfl, hb2⟩
    have k2 := ((Below.refl W.heap.size W).alloc (Nat.le_refl _) _).trans (hb2.mono (by simp))
    have r0 := (k2.cell (p := ⟨w.heap.size, 0, none⟩) hszW).trans q0
    have r1 := (k2.cell (p := ⟨w.heap.size, 1, none⟩) hszW).trans q1
    have r2 := (k2.cell (p := ⟨w.heap.size, 2, none⟩) hszW).trans q2
    go_wp2_with fail
    refine (plus_any _ _ _ _ _ _ _ _ _ (hsl _ k2) hG (by omega) (by omega) (by omega) (by omega)).mono ?_
    rintro e w3 ⟨rfl, hb3⟩
    have k3 := k2.trans (hb3.mono k2.size)
    go_wp2
    refine bodyPost_ret (v := .tuple #[.int .i64 (Ar os x y), .int .i64 0]) (by simp [results, Try.results23, go_sem]) rfl ?_
    exact ⟨rfl, hbW.trans (k3.mono (Nat.le_of_lt hszW))⟩
  · clear h0
    rw [if_neg hk0]
    have hkb : (k != 0) = true := by simpa using hk0
    go_enter Try.func23, Try.ntmps23
    go_wp2_with fail
    obtain ⟨W, hW⟩ : ∃ W, w.alloc (.cells #[.slice A n c, .int .i64 D, .slice A' vs.length c'] 27) = W := ⟨_, rfl⟩
    have hbW : Below w.heap.size w W := by rw [← hW]; exact (by repeat (first | assumption | exact Below.refl _ _ | apply below_drewN | apply Below.drew | apply Below.alloc | apply Below.setCell | omega | (focus (simp; done)) | (focus (simp; omega))))
    have hszW : w.heap.size < W.heap.size := by rw [← hW]; simp
    have hsW := hide (show W.heap.size = w.heap.size + 1 by rw [← hW]; simp)
    have q0 : W.cell? ⟨w.heap.size, 0, none⟩ = some (.slice A n c) := by rw [← hW]; exact (Blk.new _ _ _).cell 0
    have q1 : W.cell? ⟨w.heap.size, 1, none⟩ = some (.int .i64 D) := by rw [← hW]; exact (Blk.new _ _ _).cell 1
    have q2 : W.cell? ⟨w.heap.size, 2, none⟩ = some (.slice A' vs.length c') := by rw [← hW]; exact (Blk.new _ _ _).cell 2
    rw [hW]
    clear hW
    have hs := (h.below hbW).more (Nat.le_of_lt hszW)
    have hs' := (h'.below hbW).more (Nat.le_of_lt hszW)
    have hsl : ∀ wd, Below W.heap.size W wd → Sl wd wd.heap.size A n c os := fun wd h => (hs.below h).more h.size
    have hsv : ∀ wd, Below W.heap.size W wd → Sl wd wd.heap.size A' vs.length c' vs := fun wd h => (hs'.below h).more h.size
    refine (hcode _ _ _ _ _ _ _ _ _ _ (hsl _ ((Below.refl _ _).alloc (Nat.le_refl _) _)) (hsv _ ((Below.refl _ _).alloc (Nat.le_refl _) _)) (sl_two _ _ hsW.out _ _ hx hy) hn hn' (by omega)).mono ?_
    rintro e w2 ⟨rfl, hb2⟩
    have k2 := ((Below.refl W.heap.size W).alloc (Nat.le_refl _) _).trans (hb2.mono (by simp))
    go_wp2_with fail
    refine bodyPost_ret (v := .tuple #[.int .i64 0, .int .i64 k]) (by simp [results, Try.results23, go_sem]) rfl ?_
    exact ⟨rfl, hbW.trans (k2.mono (Nat.le_of_lt hszW))⟩
set_option maxHeartbeats 1000000 in
theorem spec_Neg_any (w : World) (A : Option Addr) (n c : Nat) (os : List Int) (D : Int) (A' : Option Addr) (n' c' : Nat) (vs : List Int) (x : Int) (hx : i64ok x) (h : Sl w w.heap.size A n c os) (h' : Sl w w.heap.size A' n' c' vs) (hn : n ≤ 1048576) (hn' : n' ≤ 1048576) :
    Calls Try.prog 24 #[.agg #[.slice A n c, .int .i64 D, .slice A' n' c'], .int .i64 x] w (Re2 w (if codeE os D vs [x] = 0 then (Ng os x) else 0) (codeE os D vs [x])) := by
  obtain rfl := h'.len
  have hcode := fun W A n c A' n' c' LL l lc => l10Code_any W A n c os D A' n' c' vs LL l lc [x]
  obtain ⟨k, hk⟩ : ∃ k, codeE os D vs [x] = k := ⟨_, rfl⟩
  have h0 : k = 0 → IsM os D vs ∧ allIn 0 (prodL os - 1) [x] = true := fun e => codeE_0 (hk.trans e)
  rw [hk] at hcode ⊢
  clear hk
  by_cases hk0 : k = 0
  · subst hk0
    obtain ⟨hM, hin⟩ := h0 rfl
    clear h0
    rw [if_pos rfl]
    have hG := hM.ok.g
    have hp16 := hG.p16
    have hxr : 0 ≤ x ∧ x ≤ prodL os - 1 := allIn_gi hin (k := 0) (by simp)
    have hin' := hide hin
    clear hin
    go_enter Try.func24, Try.ntmps24
    go_wp2_with fail
    obtain ⟨W, hW⟩ : ∃ W, w.alloc (.cells #[.slice A n c, .int .i64 D, .slice A' vs.length c'] 27) = W := ⟨_, rfl⟩
    have hbW : Below w.heap.size w W := by rw [← hW]; exact (by repeat (first | assumption | exact Below.refl _ _ | apply below_drewN | apply Below.drew | apply Below.alloc | apply Below.setCell | omega | (focus (simp; done)) | (focus (simp; omega))))
    have hszW : w.heap.size < W.heap.size := by rw [← hW]; simp
    have hsW := hide (show W.heap.size = w.heap.size + 1 by rw [← hW]; simp)
    have q0 : W.cell? ⟨w.heap.size, 0, none⟩ = some (.slice A n c) := by rw [← hW]; exact (Blk.new _ _ _).cell 0
    have q1 : W.cell? ⟨w.heap.size, 1, none⟩ = some (.int .i64 D) := by rw [← hW]; exact (Blk.new _ _ _).cell 1
    have q2 : W.cell? ⟨w.heap.size, 2, none⟩ = some (.slice A' vs.length c') := by rw [← hW]; exact (Blk.new _ _ _).cell 2
    rw [hW]
    clear hW
    have hs := (h.below hbW).more (Nat.le_of_lt hszW)
    have hs' := (h'.below hbW).more (Nat.le_of_lt hszW)
    have hsl : ∀ wd, Below W.heap.size W wd → Sl wd wd.heap.size A n c os := fun wd h => (hs.below h).more h.size
    have hsv : ∀ wd, Below W.heap.size W wd → Sl wd wd.heap.size A' vs.length c' vs := fun wd h => (hs'.below h).more h.size
    refine (hcode _ _ _ _ _ _ _ _ _ _ (hsl _ ((Below.refl _ _).alloc (Nat.le_refl _) _)) (hsv _ ((Below.refl _ _).alloc (Nat.le_refl _) _)) (sl_one _ _ hsW.out _ hx) hn hn' (by omega)).mono ?_
    rintro e w2 ⟨rfl, hb2⟩
    have k2 := ((Below.refl W.heap.size W).alloc (Nat.le_refl _) _).trans (hb2.mono (by simp))
    have r0 := (k2.cell (p := ⟨w.heap.size, 0, none⟩) hszW).trans q0
    have r1 := (k2.cell (p := ⟨w.heap.size, 1, none⟩) hszW).trans q1
    have r2 := (k2.cell (p := ⟨w.heap.size, 2, none⟩) hszW).trans q2
    go_wp2_with fail
    refine (l10Negative_any _ _ _ _ _ _ _ (hsl _ k2) (Nat.le_refl _) hG (by omega) (by omega)).mono ?_
    rintro e w3 ⟨rfl, hb3⟩
    have k3 := k2.trans (hb3.mono k2.size)
    go_wp2
    refine bodyPost_ret (v := .tuple #[.int .i64 (Ng os x), .int .i64 0]) (by simp [results, Try.results24, go_sem]) rfl ?_
    exact ⟨rfl, hbW.trans (k3.mono (Nat.le_of_lt hszW))⟩
  · clear h0
    rw [if_neg hk0]
    have hkb : (k != 0) = true := by simpa using hk0
    go_enter Try.func24, Try.ntmps24
    go_wp2_with fail
    obtain ⟨W, hW⟩ : ∃ W, w.alloc (.cells #[.slice A n c, .int .i64 D, .slice A' vs.length c'] 27) = W := ⟨_, rfl⟩
    have hbW : Below w.heap.size w W := by rw [← hW]; exact (by repeat (first | assumption | exact Below.refl _ _ | apply below_drewN | apply Below.drew | apply Below.alloc | apply Below.setCell | omega | (focus (simp; done)) | (focus (simp; omega))))
    have hszW : w.heap.size < W.heap.size := by rw [← hW]; simp
    have hsW := hide (show W.heap.size = w.heap.size + 1 by rw [← hW]; simp)
    have q0 : W.cell? ⟨w.heap.size, 0, none⟩ = some (.slice A n c) := by rw [← hW]; exact (Blk.new _ _ _).cell 0
    have q1 : W.cell? ⟨w.heap.size, 1, none⟩ = some (.int .i64 D) := by rw [← hW]; exact (Blk.new _ _ _).cell 1
    have q2 : W.cell? ⟨w.heap.size, 2, none⟩ = some (.slice A' vs.length c') := by rw [← hW]; exact (Blk.new _ _ _).cell 2
    rw [hW]
    clear hW
    have hs := (h.below hbW).more (Nat.le_of_lt hszW)
    have hs' := (h'.below hbW).more (Nat.le_of_lt hszW)
    have hsl : ∀ wd, Below W.heap.size W wd → Sl wd wd.heap.size A n c os := fun wd h => (hs.below h).more h.size
    have hsv : ∀ wd, Below W.heap.size W wd → Sl wd wd.heap.size A' vs.length c' vs := fun wd h => (hs'.below h).more h.size
    refine (hcode _ _ _ _ _ _ _ _ _ _ (hsl _ ((Below.refl _ _).alloc (Nat.le_refl _) _)) (hsv _ ((Below.refl _ _).alloc (Nat.le_refl _) _)) (sl_one _ _ hsW.out _ hx) hn hn' (by omega)).mono ?_
    rintro e w2 ⟨rfl, hb2⟩
    have k2 := ((Below.refl W.heap.size W).alloc (Nat.le_refl _) _).trans (hb2.mono (by simp))
    go_wp2_with fail
    refine bodyPost_ret (v := .tuple #[.int .i64 0, .int .i64 k]) (by simp [results, Try.results24, go_sem]) rfl ?_
    exact ⟨rfl, hbW.trans (k2.mono (Nat.le_of_lt hszW))⟩
set_option maxHeartbeats 1000000 in
theorem impl_Neg_any (w : World) (A : Option Addr) (n c : Nat) (os : List Int) (D : Int) (A' : Option Addr) (n' c' : Nat) (vs : List Int) (x : Int) (hx : i64ok x) (h : Sl w w.heap.size A n c os) (h' : Sl w w.heap.size A' n' c' vs) (hn : n ≤ 1048576) (hn' : n' ≤ 1048576) :
    Calls Try.prog 25 #[.agg #[.slice A n c, .int .i64 D, .slice A' n' c'], .int .i64 x] w (Re2 w (if codeE os D vs [x] = 0 then (Ng os x) else 0) (codeE os D vs [x])) := by
  obtain rfl := h'.len
  have hcode := fun W A n c A' n' c' LL l lc => elementCode_any W A n c os D A' n' c' vs LL l lc [x]
  obtain ⟨k, hk⟩ : ∃ k, codeE os D vs [x] = k := ⟨_, rfl⟩
  have h0 : k = 0 → IsM os D vs ∧ allIn 0 (prodL os - 1) [x] = true := fun e => codeE_0 (hk.trans e)
  rw [hk] at hcode ⊢
  clear hk
  by_cases hk0 : k = 0
  · subst hk0
    obtain ⟨hM, hin⟩ := h0 rfl
    clear h0
    rw [if_pos rfl]
    have hG := hM.ok.g
    have hp16 := hG.p16
    have hxr : 0 ≤ x ∧ x ≤ prodL os - 1 := allIn_gi hin (k := 0) (by simp)
    have hin' := hide hin
    clear hin
    go_enter Try.func25, Try.ntmps25
    go_wp2_with fail
    obtain ⟨W, hW⟩ : ∃ W, w.alloc (.cells #[.slice A n c, .int .i64 D, .slice A' vs.length c'] 27) = W := ⟨_, rfl⟩
    have hbW : Below w.heap.size w W := by rw [← hW]; exact (by repeat (first | assumption | exact Below.refl _ _ | apply below_drewN | apply Below.drew | apply Below.alloc | apply Below.setCell | omega | (focus (simp; done)) | (focus (simp; omega))))
    have hszW : w.heap.size < W.heap.size := by rw [← hW]; simp
    have hsW := hide (show W.heap.size = w.heap.size + 1 by rw [← hW]; simp)
    have q0 : W.cell? ⟨w.heap.size, 0, none⟩ = some (.slice A n c) := by rw [← hW]; exact (Blk.new _ _ _).cell 0
    have q1 : W.cell? ⟨w.heap.size, 1, none⟩ = some (.int .i64 D) := by rw [← hW]; exact (Blk.new _ _ _).cell 1
    have q2 : W.cell? ⟨w.heap.size, 2, none⟩ = some (.slice A' vs.length c') := by rw [← hW]; exact (Blk.new _ _ _).cell 2
    rw [hW]
    clear hW
    have hs := (h.below hbW).more (Nat.le_of_lt hszW)
    have hs' := (h'.below hbW).more (Nat.le_of_lt hszW)
    have hsl : ∀ wd, Below W.heap.size W wd → Sl wd wd.heap.size A n c os := fun wd h => (hs.below h).more h.size
    have hsv : ∀ wd, Below W.heap.size W wd → Sl wd wd.heap.size A' vs.length c' vs := fun wd h => (hs'.below h).more h.size
    refine (hcode _ _ _ _ _ _ _ _ _ _ (hsl _ ((Below.refl _ _).alloc (Nat.le_refl _) _)) (hsv _ ((Below.refl _ _).alloc (Nat.le_refl _) _)) (sl_one _ _ hsW.out _ hx) hn hn' (by omega)).mono ?_
    rintro e w2 ⟨rfl, hb2⟩
    have k2 := ((Below.refl W.heap.size W).alloc (Nat.le_refl _) _).trans (hb2.mono (by simp))
    have r0 := (k2.cell (p := ⟨w.heap.size, 0, none⟩) hszW).trans q0
    have r1 := (k2.cell (p := ⟨w.heap.size, 1, none⟩) hszW).trans q1
    have r2 := (k2.cell (p := ⟨w.heap.size, 2, none⟩) hszW).trans q2
    go_wp2_with fail
    refine (minus_any _ _ _ _ _ _ _ _ (hsl _ k2) hG (by omega) (by omega) _ _ _ rfl _ rfl).mono ?_
    rintro e w3 ⟨rfl, hb3⟩
    have k3 := k2.trans (hb3.mono k2.size)
    go_wp2
    refine bodyPost_ret (v := .tuple #[.int .i64 (Ng os x), .int .i64 0]) (by simp [results, Try.results25, go_sem]) rfl ?_
    exact ⟨rfl, hbW.trans (k3.mono (Nat.le_of_lt hszW))⟩
  · clear h0
    rw [if_neg hk0]
    have hkb : (k != 0) = true := by simpa using hk0
    go_enter Try.func25, Try.ntmps25
    go_wp2_with fail
    obtain ⟨W, hW⟩ : ∃ W, w.alloc (.cells #[.slice A n c, .int .i64 D, .slice A' vs.length c'] 27) = W := ⟨_, rfl⟩
    have hbW : Below w.heap.size w W := by rw [← hW]; exact (by repeat (first | assumption | exact Below.refl _ _ | apply below_drewN | apply Below.drew | apply Below.alloc | apply Below.setCell | omega | (focus (simp; done)) | (focus (simp; omega))))
    have hszW : w.heap.size < W.heap.size := by rw [← hW]; simp
    have hsW := hide (show W.heap.size = w.heap.size + 1 by rw [← hW]; simp)
    have q0 : W.cell? ⟨w.heap.size, 0, none⟩ = some (.slice A n c) := by rw [← hW]; exact (Blk.new _ _ _).cell 0
    have q1 : W.cell? ⟨w.heap.size, 1, none⟩ = some (.int .i64 D) := by rw [← hW]; exact (Blk.new _ _ _).cell 1
    have q2 : W.cell? ⟨w.heap.size, 2, none⟩ = some (.slice A' vs.length c') := by rw [← hW]; exact (Blk.new _ _ _).cell 2
    rw [hW]
    clear hW
    have hs := (h.below hbW).more (Nat.le_of_lt hszW)
    have hs' := (h'.below hbW).more (Nat.le_of_lt hszW)
    have hsl : ∀ wd, Below W.heap.size W wd → Sl wd wd.heap.size A n c os := fun wd h => (hs.below h).more h.size
    have hsv : ∀ wd, Below W.heap.size W wd → Sl wd wd.heap.size A' vs.length c' vs := fun wd h => (hs'.below h).more h.size
    refine (hcode _ _ _ _ _ _ _ _ _ _ (hsl _ ((Below.refl _ _).alloc (Nat.le_refl _) _)) (hsv _ ((Below.refl _ _).alloc (Nat.le_refl _) _)) (sl_one _ _ hsW.out _ hx) hn hn' (by omega)).mono ?_
    rintro e w2 ⟨rfl, hb2⟩
    have k2 := ((Below.refl W.heap.size W).alloc (Nat.le_refl _) _).trans (hb2.mono (by simp))
    go_wp2_with fail
    refine bodyPost_ret (v := .tuple #[.int .i64 0, .int .i64 k]) (by simp [results, Try.results25, go_sem]) rfl ?_
    exact ⟨rfl, hbW.trans (k2.mono (Nat.le_of_lt hszW))⟩
set_option maxHeartbeats 1000000 in
theorem spec_Pair_any (w : World) (A : Option Addr) (n c : Nat) (os : List Int) (D : Int) (A' : Option Addr) (n' c' : Nat) (vs : List Int) (x y : Int) (hx : i64ok x) (hy : i64ok y) (h : Sl w w.heap.size A n c os) (h' : Sl w w.heap.size A' n' c' vs) (hn : n ≤ 1048576) (hn' : n' ≤ 1048576) :
    Calls Try.prog 26 #[.agg #[.slice A n c, .int .i64 D, .slice A' n' c'], .int .i64 x, .int .i64 y] w (Re2 w (if codeE os D vs [x, y] = 0 then (Pr os D vs x y) else 0) (codeE os D vs [x, y])) := by
  obtain rfl := h'.len
  have hcode := fun W A n c A' n' c' LL l lc => l10Code_any W A n c os D A' n' c' vs LL l lc [x, y]
  obtain ⟨k, hk⟩ : ∃ k, codeE os D vs [x, y] = k := ⟨_, rfl⟩
  have h0 : k = 0 → IsM os D vs ∧ allIn 0 (prodL os - 1) [x, y] = true := fun e => codeE_0 (hk.trans e)
  rw [hk] at hcode ⊢
  clear hk
  by_cases hk0 : k = 0
  · subst hk0
    obtain ⟨hM, hin⟩ := h0 rfl
    clear h0
    rw [if_pos rfl]
    have hG := hM.ok.g
    have hp16 := hG.p16
    have hxr : 0 ≤ x ∧ x ≤ prodL os - 1 := allIn_gi hin (k := 0) (by simp)
    have hyr : 0 ≤ y ∧ y ≤ prodL os - 1 := allIn_gi hin (k := 1) (by simp)
    obtain ⟨x, rfl⟩ : ∃ m : Nat, x = (m : Int) := ⟨x.toNat, by omega⟩
    obtain ⟨y, rfl⟩ : ∃ m : Nat, y = (m : Int) := ⟨y.toNat, by omega⟩
    have hin' := hide hin
    clear hin
    go_enter Try.func26, Try.ntmps26
    go_wp2_with fail
    obtain ⟨W, hW⟩ : ∃ W, w.alloc (.cells #[.slice A n c, .int .i64 D, .slice A' vs.length c'] 27) = W := ⟨_, rfl⟩
    have hbW : Below w.heap.size w W := by rw [← hW]; exact (by repeat (first | assumption | exact Below.refl _ _ | apply below_drewN | apply Below.drew | apply Below.alloc | apply Below.setCell | omega | (focus (simp; done)) | (focus (simp; omega))))
    have hszW : w.heap.size < W.heap.size := by rw [← hW]; simp
    have hsW := hide (show W.heap.size = w.heap.size + 1 by rw [← hW]; simp)
    have q0 : W.cell? ⟨w.heap.size, 0, none⟩ = some (.slice A n c) := by rw [← hW]; exact (Blk.new _ _ _).cell 0
    have q1 : W.cell? ⟨w.heap.size, 1, none⟩ = some (.int .i64 D) := by rw [← hW]; exact (Blk.new _ _ _).cell 1
    have q2 : W.cell? ⟨w.heap.size, 2, none⟩ = some (.slice A' vs.length c') := by rw [← hW]; exact (Blk.new _ _ _).cell 2
    rw [hW]
    clear hW
    have hs := (h.below hbW).more (Nat.le_of_lt hszW)
    have hs' := (h'.below hbW).more (Nat.le_of_lt hszW)
    have hsl : ∀ wd, Below W.heap.size W wd → Sl wd wd.heap.size A n c os := fun wd h => (hs.below h).more h.size
    have hsv : ∀ wd, Below W.heap.size W wd → Sl wd wd.heap.size A' vs.length c' vs := fun wd h => (hs'.below h).more h.size
    refine (hcode _ _ _ _ _ _ _ _ _ _ (hsl _ ((Below.refl _ _).alloc (Nat.le_refl _) _)) (hsv _ ((Below.refl _ _).alloc (Nat.le_refl _) _)) (sl_two _ _ hsW.out _ _ hx hy) hn hn' (by omega)).mono ?_
    rintro e w2 ⟨rfl, hb2⟩
    have k2 := ((Below.refl W.heap.size W).alloc (Nat.le_refl _) _).trans (hb2.mono (by simp))
    have r0 := (k2.cell (p := ⟨w.heap.size, 0, none⟩) hszW).trans q0
    have r1 := (k2.cell (p := ⟨w.heap.size, 1, none⟩) hszW).trans q1
    have r2 := (k2.cell (p := ⟨w.heap.size, 2, none⟩) hszW).trans q2
    go_wp2_with fail
    refine (l10Pair_any _ _ _ _ _ _ _ _ _ _ _ _ (hsl _ k2) (hsv _ k2) hM.ok (by omega) (by omega)).mono ?_
    rintro e w3 ⟨rfl, hb3⟩
    have k3 := k2.trans (hb3.mono k2.size)
    go_wp2
    refine bodyPost_ret (v := .tuple #[.int .i64 (Pr os D vs x y), .int .i64 0]) (by simp [results, Try.results26, go_sem]) rfl ?_
    exact ⟨rfl, hbW.trans (k3.mono (Nat.le_of_lt hszW))⟩
  · clear h0
    rw [if_neg hk0]
    have hkb : (k != 0) = true := by simpa using hk0
    go_enter Try.func26, Try.ntmps26
    go_wp2_with fail
    obtain ⟨W, hW⟩ : ∃ W, w.alloc (.cells #[.slice A n c, .int .i64 D, .slice A' vs.length c'] 27) = W := ⟨_, rfl⟩
    have hbW : Below w.heap.size w W := by rw [← hW]; exact (by repeat (first | assumption | exact Below.refl _ _ | apply below_drewN | apply Below.drew | apply Below.alloc | apply Below.setCell | omega | (focus (simp; done)) | (focus (simp; omega))))
    have hszW : w.heap.size < W.heap.size := by rw [← hW]; simp
    have hsW := hide (show W.heap.size = w.heap.size + 1 by rw [← hW]; simp)
    have q0 : W.cell? ⟨w.heap.size, 0, none⟩ = some (.slice A n c) := by rw [← hW]; exact (Blk.new _ _ _).cell 0
    have q1 : W.cell? ⟨w.heap.size, 1, none⟩ = some (.int .i64 D) := by rw [← hW]; exact (Blk.new _ _ _).cell 1
    have q2 : W.cell? ⟨w.heap.size, 2, none⟩ = some (.slice A' vs.length c') := by rw [← hW]; exact (Blk.new _ _ _).cell 2
    rw [hW]
    clear hW
    have hs := (h.below hbW).more (Nat.le_of_lt hszW)
    have hs' := (h'.below hbW).more (Nat.le_of_lt hszW)
    have hsl : ∀ wd, Below W.heap.size W wd → Sl wd wd.heap.size A n c os := fun wd h => (hs.below h).more h.size
    have hsv : ∀ wd, Below W.heap.size W wd → Sl wd wd.heap.size A' vs.length c' vs := fun wd h => (hs'.below h).more h.size
    refine (hcode _ _ _ _ _ _ _ _ _ _ (hsl _ ((Below.refl _ _).alloc (Nat.le_refl _) _)) (hsv _ ((Below.refl _ _).alloc (Nat.le_refl _) _)) (sl_two _ _ hsW.out _ _ hx hy) hn hn' (by omega)).mono ?_
    rintro e w2 ⟨rfl, hb2⟩
    have k2 := ((Below.refl W.heap.size W).alloc (Nat.le_refl _) _).trans (hb2.mono (by simp))
    go_wp2_with fail
    refine bodyPost_ret (v := .tuple #[.int .i64 0, .int .i64 k]) (by simp [results, Try.results26, go_sem]) rfl ?_
    exact ⟨rfl, hbW.trans (k2.mono (Nat.le_of_lt hszW))⟩
set_option maxHeartbeats 1000000 in
theorem impl_Pair_any (w : World) (A : Option Addr) (n c : Nat) (os : List Int) (D : Int) (A' : Option Addr) (n' c' : Nat) (vs : List Int) (x y : Int) (hx : i64ok x) (hy : i64ok y) (h : Sl w w.heap.size A n c os) (h' : Sl w w.heap.size A' n' c' vs) (hn : n ≤ 1048576) (hn' : n' ≤ 1048576) :
    Calls Try.prog 27 #[.agg #[.slice A n c, .int .i64 D, .slice A' n' c'], .int .i64 x, .int .i64 y] w (Re2 w (if codeE os D vs [x, y] = 0 then (Pr os D vs x y) else 0) (codeE os D vs [x, y])) := by
  obtain rfl := h'.len
  have hcode := fun W A n c A' n' c' LL l lc => elementCode_any W A n c os D A' n' c' vs LL l lc [x, y]
  obtain ⟨k, hk⟩ : ∃ k, codeE os D vs [x, y] = k := ⟨_, rfl⟩
  have h0 : k = 0 → IsM os D vs ∧ allIn 0 (prodL os - 1) [x, y] = true := fun e => codeE_0 (hk.trans e)
  rw [hk] at hcode ⊢
  clear hk
  by_cases hk0 : k = 0
  · subst hk0
    obtain ⟨hM, hin⟩ := h0 rfl
    clear h0
    rw [if_pos rfl]
    have hG := hM.ok.g
    have hp16 := hG.p16
    have hxr : 0 ≤ x ∧ x ≤ prodL os - 1 := allIn_gi hin (k := 0) (by simp)
    have hyr : 0 ≤ y ∧ y ≤ prodL os - 1 := allIn_gi hin (k := 1) (by simp)
    obtain ⟨x, rfl⟩ : ∃ m : Nat, x = (m : Int) := ⟨x.toNat, by omega⟩
    obtain ⟨y, rfl⟩ : ∃ m : Nat, y = (m : Int) := ⟨y.toNat, by omega⟩
    have hin' := hide hin
    clear hin
    go_enter Try.func27, Try.ntmps27
    go_wp2_with fail
    obtain ⟨W, hW⟩ : ∃ W, w.alloc (.cells #[.slice A n c, .int .i64 D, .slice A' vs.length c'] 27) = W := ⟨_, rfl⟩
    have hbW : Below w.heap.size w W := by rw [← hW]; exact (by repeat (first | assumption | exact Below.refl _ _ | apply below_drewN | apply Below.drew | apply Below.alloc | apply Below.setCell | omega | (focus (simp; done)) | (focus (simp; omega))))
    have hszW : w.heap.size < W.heap.size := by rw [← hW]; simp
    have hsW := hide (show W.heap.size = w.heap.size + 1 by rw [← hW]; simp)
    have q0 : W.cell? ⟨w.heap.size, 0, none⟩ = some (.slice A n c) := by rw [← hW]; exact (Blk.new _ _ _).cell 0
    have q1 : W.cell? ⟨w.heap.size, 1, none⟩ = some (.int .i64 D) := by rw [← hW]; exact (Blk.new _ _ _).cell 1
    have q2 : W.cell? ⟨w.heap.size, 2, none⟩ = some (.slice A' vs.length c') := by rw [← hW]; exact (Blk.new _ _ _).cell 2
    rw [hW]
    clear hW
    have hs := (h.below hbW).more (Nat.le_of_lt hszW)
    have hs' := (h'.below hbW).more (Nat.le_of_lt hszW)
    have hsl : ∀ wd, Below W.heap.size W wd → Sl wd wd.heap.size A n c os := fun wd h => (hs.below h).more h.size
    have hsv : ∀ wd, Below W.heap.size W wd → Sl wd wd.heap.size A' vs.length c' vs := fun wd h => (hs'.below h).more h.size
    refine (hcode _ _ _ _ _ _ _ _ _ _ (hsl _ ((Below.refl _ _).alloc (Nat.le_refl _) _)) (hsv _ ((Below.refl _ _).alloc (Nat.le_refl _) _)) (sl_two _ _ hsW.out _ _ hx hy) hn hn' (by omega)).mono ?_
    rintro e w2 ⟨rfl, hb2⟩
    have k2 := ((Below.refl W.heap.size W).alloc (Nat.le_refl _) _).trans (hb2.mono (by simp))
    have r0 := (k2.cell (p := ⟨w.heap.size, 0, none⟩) hszW).trans q0
    have r1 := (k2.cell (p := ⟨w.heap.size, 1, none⟩) hszW).trans q1
    have r2 := (k2.cell (p := ⟨w.heap.size, 2, none⟩) hszW).trans q2
    go_wp2_with fail
    refine (pair_any _ _ _ _ _ _ _ _ _ _ _ _ (hsl _ k2) (hsv _ k2) hM.ok (by omega) (by omega)).mono ?_
    rintro e w3 ⟨rfl, hb3⟩
    have k3 := k2.trans (hb3.mono k2.size)
    go_wp2
    refine bodyPost_ret (v := .tuple #[.int .i64 (Pr os D vs x y), .int .i64 0]) (by simp [results, Try.results27, go_sem]) rfl ?_
    exact ⟨rfl, hbW.trans (k3.mono (Nat.le_of_lt hszW))⟩
  · clear h0
    rw [if_neg hk0]
    have hkb : (k != 0) = true := by simpa using hk0
    go_enter Try.func27, Try.ntmps27
    go_wp2_with fail
    obtain ⟨W, hW⟩ : ∃ W, w.alloc (.cells #[.slice A n c, .int .i64 D, .slice A' vs.length c'] 27) = W := ⟨_, rfl⟩
    have hbW : Below w.heap.size w W := by rw [← hW]; exact (by repeat (first | assumption | exact Below.refl _ _ | apply below_drewN | apply Below.drew | apply Below.alloc | apply Below.setCell | omega | (focus (simp; done)) | (focus (simp; omega))))
    have hszW : w.heap.size < W.heap.size := by rw [← hW]; simp
    have hsW := hide (show W.heap.size = w.heap.size + 1 by rw [← hW]; simp)
    have q0 : W.cell? ⟨w.heap.size, 0, none⟩ = some (.slice A n c) := by rw [← hW]; exact (Blk.new _ _ _).cell 0
    have q1 : W.cell? ⟨w.heap.size, 1, none⟩ = some (.int .i64 D) := by rw [← hW]; exact (Blk.new _ _ _).cell 1
    have q2 : W.cell? ⟨w.heap.size, 2, none⟩ = some (.slice A' vs.length c') := by rw [← hW]; exact (Blk.new _ _ _).cell 2
    rw [hW]
    clear hW
    have hs := (h.below hbW).more (Nat.le_of_lt hszW)
    have hs' := (h'.below hbW).more (Nat.le_of_lt hszW)
    have hsl : ∀ wd, Below W.heap.size W wd → Sl wd wd.heap.size A n c os := fun wd h => (hs.below h).more h.size
    have hsv : ∀ wd, Below W.heap.size W wd → Sl wd wd.heap.size A' vs.length c' vs := fun wd h => (hs'.below h).more h.size
    refine (hcode _ _ _ _ _ _ _ _ _ _ (hsl _ ((Below.refl _ _).alloc (Nat.le_refl _) _)) (hsv _ ((Below.refl _ _).alloc (Nat.le_refl _) _)) (sl_two _ _ hsW.out _ _ hx hy) hn hn' (by omega)).mono ?_
    rintro e w2 ⟨rfl, hb2⟩
    have k2 := ((Below.refl W.heap.size W).alloc (Nat.le_refl _) _).trans (hb2.mono (by simp))
    go_wp2_with fail
    refine bodyPost_ret (v := .tuple #[.int .i64 0, .int .i64 k]) (by simp [results, Try.results27, go_sem]) rfl ?_
    exact ⟨rfl, hbW.trans (k2.mono (Nat.le_of_lt hszW))⟩
end Go.Proofs.Ytpafkgfjbdhpkaa
