
/- The walks of orderOfElement, l10Order. -/
import Derived.Test.YtnoemhmmaicakaaGrp2
import Derived.Test.YtnoemhmmaicakaaEa
import Derived.WalkLawsBesides
namespace Go.Proofs.Ytnoemhmmaicakaa
open Go Go.RowKit Grp
set_option linter.unusedSimpArgs false
set_option linter.unusedVariables false

/-- k times an element. -/
def Mu (os : List Int) (k x : Int) : Int := mulR os.reverse k x
theorem Mu_succ {os : List Int} (h : OkG os) (k x : Int) : Ar os (Mu os k x) x = Mu os (k + 1) x := mulR_succ h.posR k x
theorem Mu_one {os : List Int} (h : OkG os) {x : Int} (h0 : 0 ≤ x) (h1 : x < prodL os) : Mu os 1 x = x := mulR_one h.posR x h0 (by rwa [prodL_reverse])
theorem Mu_prod {os : List Int} (x : Int) : Mu os (prodL os) x = 0 := by unfold Mu; rw [← prodL_reverse]; exact mulR_prod _ x
theorem least {p : Nat → Prop} : ∀ n, p n → ∃ m, p m ∧ m ≤ n ∧ ∀ j, j < m → ¬ p j := by
  intro n
  induction n using Nat.strongRecOn with
  | _ n ih =>
    intro hn
    by_cases h : ∃ j, j < n ∧ p j
    · obtain ⟨j, hj, hp⟩ := h
      obtain ⟨m, h1, h2, h3⟩ := ih j hj hp
      exact ⟨m, h1, by omega, h3⟩
    · exact ⟨n, hn, Nat.le_refl _, fun j hj hp => h ⟨j, hj, hp⟩⟩
structure IsOrd (os : List Int) (x : Int) (r : Nat) : Prop where
  pos : 1 ≤ r
  le : r ≤ 16
  zero : Mu os r x = 0
  ne : ∀ j : Nat, 1 ≤ j → j < r → Mu os j x ≠ 0
theorem isOrd_ex {os : List Int} (h : OkG os) (x : Int) : ∃ r, IsOrd os x r := by
  have h2 := h.ge
  have h16 := h.p16
  obtain ⟨m, ⟨a, b⟩, c, d⟩ := least (p := fun k : Nat => 1 ≤ k ∧ Mu os k x = 0) (prodL os).toNat ⟨by omega, by rw [show ((prodL os).toNat : Int) = prodL os by omega]; exact Mu_prod x⟩
  exact ⟨m, a, by omega, b, fun j j1 j2 hz => d j j2 ⟨j1, hz⟩⟩
open Classical in
noncomputable def ordN (os : List Int) (x : Int) : Nat := if h : ∃ r, IsOrd os x r then Classical.choose h else 0
theorem ordN_spec {os : List Int} (h : OkG os) (x : Int) : IsOrd os x (ordN os x) := by
  have he := isOrd_ex h x
  unfold ordN
  rw [dif_pos he]
  exact Classical.choose_spec he

theorem orderOf_any (w : World) (A : Option Addr) (n c : Nat) (os : List Int) (D : Int) (A' : Option Addr) (n' c' : Nat) (x : Int) (h : Sl w w.heap.size A n c os) (hG : OkG os) (x0 : 0 ≤ x) (x1 : x < prodL os) :
    Calls Try.prog 64 #[.agg #[.slice A n c, .int .i64 D, .slice A' n' c'], .int .i64 x] w (Re w (.int .i64 (ordN os x))) := by
  have hO := hide (ordN_spec hG x)
  have hp16 := hG.p16
  obtain ⟨r, hr⟩ : ∃ r, ordN os x = r := ⟨_, rfl⟩
  rw [hr] at hO ⊢
  clear hr
  have hr16 := hO.out.le
  have hr1 := hO.out.pos
  have hYR := hide (fun (j : Nat) (y : Int) (hj : 1 ≤ j) (hy : y = Mu os j x) => show 0 ≤ y ∧ y ≤ 1000000 by
    rw [hy]
    obtain ⟨i, rfl⟩ : ∃ i, j = i + 1 := ⟨j - 1, by omega⟩
    rw [show ((i + 1 : Nat) : Int) = (i : Int) + 1 by omega, ← Mu_succ hG]
    have := Ar_rng hG (Mu os i x) x
    omega)
  have hone := hide (Mu_one hG x0 x1)
  go_enter Try.func64, Try.ntmps64
  go_wp2_with fail
  obtain ⟨W, hW⟩ : ∃ W, w.alloc (.cells #[.slice A n c, .int .i64 D, .slice A' n' c'] 26) = W := ⟨_, rfl⟩
  have hbW : Below w.heap.size w W := by rw [← hW]; exact (by repeat (first | assumption | exact Below.refl _ _ | apply below_drewN | apply Below.drew | apply Below.alloc | apply Below.setCell | omega | (focus (simp; done)) | (focus (simp; omega))))
  have hszW : w.heap.size < W.heap.size := by rw [← hW]; simp
  have q0 : W.cell? ⟨w.heap.size, 0, none⟩ = some (.slice A n c) := by rw [← hW]; exact (Blk.new _ _ _).cell 0
  have q1 : W.cell? ⟨w.heap.size, 1, none⟩ = some (.int .i64 D) := by rw [← hW]; exact (Blk.new _ _ _).cell 1
  have q2 : W.cell? ⟨w.heap.size, 2, none⟩ = some (.slice A' n' c') := by rw [← hW]; exact (Blk.new _ _ _).cell 2
  rw [hW]
  clear hW
  have hs := (h.below hbW).more (Nat.le_of_lt hszW)
  have hsl : ∀ wd, Below W.heap.size W wd → Sl wd wd.heap.size A n c os := fun wd h => (hs.below h).more h.size
  go_loopw [5, 6] (fun k i wr => ∃ (j : Nat) (y : Int), 1 ≤ j ∧ j ≤ r ∧ k = .int .i64 j ∧ i = .int .i64 y ∧ y = Mu os j x ∧ Below W.heap.size W wr) (fun k _ _ => 17 - (intOf k).toNat)
  case atStart => exact ⟨1, x, by omega, hr1, rfl, rfl, hone.out.symm, Below.refl _ _⟩
  case round =>
    obtain ⟨j, y, hj1, hjr, rfl, rfl, hy, hBe⟩ := hrel
    have hyr : 0 ≤ y ∧ y ≤ 1000000 := hYR.out j y hj1 hy
    have hY := hide hy
    clear hy
    by_cases hlt : j < r
    · have hne := hO.out.ne j hj1 hlt
      rw [← hY.out] at hne
      have hyb : (y != 0) = true := by simpa using hne
      clear hne
      have r0 := (hBe.cell (p := ⟨w.heap.size, 0, none⟩) hszW).trans q0
      have r1 := (hBe.cell (p := ⟨w.heap.size, 1, none⟩) hszW).trans q1
      have r2 := (hBe.cell (p := ⟨w.heap.size, 2, none⟩) hszW).trans q2
      go_wp2_with fail
      clear r0 r1 r2
      refine (plus_any _ _ _ _ _ _ _ _ _ (hsl _ hBe) hG (by omega) (by omega) (by omega) (by omega)).mono ?_
      rintro e w2 ⟨rfl, hb2⟩
      replace hBe := hBe.trans (hb2.mono hBe.size)
      go_wp2_with fail
      go_roundw
      case rel => exact ⟨j + 1, Ar os y x, by omega, by omega, by go_num, rfl, by rw [hY.out, Mu_succ hG]; rfl, hBe⟩
      case measure => simp [intOf] <;> omega
    · obtain rfl : j = r := by omega
      have hz : y = 0 := by rw [hY.out]; exact hO.out.zero
      subst hz
      go_wp2_with fail
      go_ret
      exact ⟨rfl, hbW.trans (hBe.mono (Nat.le_of_lt hszW))⟩
end Go.Proofs.Ytnoemhmmaicakaa
