
/- The walks of Metric.size, plus, minus, pair. -/
import Derived.Test.YtneflhachjlmkaaI1
import Derived.Test.YtneflhachjlmkaaS5
import Derived.WalkLawsBesides
namespace Go.Proofs.Ytneflhachjlmkaa
open Go Go.RowKit Grp
set_option linter.unusedSimpArgs false
set_option linter.unusedVariables false

theorem size_any (w : World) (o d : Value) (A : Option Addr) (n c : Nat) : Calls Try.prog 117 #[.agg #[o, d, .slice A n c]] w (Re w (.int .i64 n)) := by
  go_enter Try.func117, Try.ntmps117
  go_wp2
  go_ret
  exact ⟨rfl, (by repeat (first | assumption | exact Below.refl _ _ | apply below_drewN | apply Below.drew | apply Below.alloc | apply Below.setCell | omega | (focus (simp; done)) | (focus (simp; omega))))⟩
theorem plus_any (w : World) (d v : Value) (A : Option Addr) (n c : Nat) (os : List Int) (x y : Int) (h : Sl w w.heap.size A n c os) (hG : OkG os) (x0 : 0 ≤ x) (x1 : x ≤ 1000000) (y0 : 0 ≤ y) (y1 : y ≤ 1000000) :
    Calls Try.prog 132 #[.agg #[.slice A n c, d, v], .int .i64 x, .int .i64 y] w (Re w (.int .i64 (Ar os x y))) := by
  go_enter Try.func132, Try.ntmps132
  go_wp2_with fail
  refine (addElements_any _ _ _ _ _ _ _ hG x0 x1 y0 y1 ((h.below (by repeat (first | assumption | exact Below.refl _ _ | apply below_drewN | apply Below.drew | apply Below.alloc | apply Below.setCell | omega | (focus (simp; done)) | (focus (simp; omega))))).more (by simp))).mono ?_
  rintro e w' ⟨rfl, hb⟩
  go_wp2
  go_ret
  exact ⟨rfl, Below.trans (by repeat (first | assumption | exact Below.refl _ _ | apply below_drewN | apply Below.drew | apply Below.alloc | apply Below.setCell | omega | (focus (simp; done)) | (focus (simp; omega)))) (hb.mono (by simp))⟩
theorem minus_any (w : World) (d v : Value) (A : Option Addr) (n c : Nat) (os : List Int) (x : Int) (h : Sl w w.heap.size A n c os) (hG : OkG os) (x0 : 0 ≤ x) (x1 : x ≤ 1000000) (A' : Option Addr) (n' c' : Nat) (hv : v = .slice A' n' c') (D : Int) (hd : d = .int .i64 D) :
    Calls Try.prog 133 #[.agg #[.slice A n c, d, v], .int .i64 x] w (Re w (.int .i64 (Ng os x))) := by
  subst hv
  subst hd
  have hr := Ng_rng hG x
  have hN := Ar_neg hG x
  have hU := fun y h0 h1 he => Ng_unique hG (x := x) (y := y) h0 h1 he
  have hp := hG.p16
  obtain ⟨g, hg⟩ : ∃ g : Nat, Ng os x = (g : Int) := ⟨(Ng os x).toNat, by omega⟩
  have hg16 : g < 16 := by omega
  have hNN := hide hN
  have hUU := hide hU
  have hGG := hide hg
  clear hN hU
  go_enter Try.func133, Try.ntmps133
  go_wp2_with fail
  obtain ⟨W, hW⟩ : ∃ W, w.alloc (.cells #[.slice A n c, .int .i64 D, .slice A' n' c'] 28) = W := ⟨_, rfl⟩
  have hbW : Below w.heap.size w W := by rw [← hW]; exact (by repeat (first | assumption | exact Below.refl _ _ | apply below_drewN | apply Below.drew | apply Below.alloc | apply Below.setCell | omega | (focus (simp; done)) | (focus (simp; omega))))
  have hszW : w.heap.size < W.heap.size := by rw [← hW]; simp
  have q0 : W.cell? ⟨w.heap.size, 0, none⟩ = some (.slice A n c) := by rw [← hW]; exact (Blk.new _ _ _).cell 0
  have q1 : W.cell? ⟨w.heap.size, 1, none⟩ = some (.int .i64 D) := by rw [← hW]; exact (Blk.new _ _ _).cell 1
  have q2 : W.cell? ⟨w.heap.size, 2, none⟩ = some (.slice A' n' c') := by rw [← hW]; exact (Blk.new _ _ _).cell 2
  rw [hW]
  clear hW
  have hs := h.below hbW
  go_loopw [5] (fun i wr => ∃ k : Nat, k ≤ g ∧ i = .int .i64 k ∧ Below W.heap.size W wr) (fun i _ => 17 - (intOf i).toNat)
  case atStart => exact ⟨0, by omega, rfl, Below.refl _ _⟩
  case round =>
    obtain ⟨k, hk, rfl, hBe⟩ := hrel
    have r0 := (hBe.cell (p := ⟨w.heap.size, 0, none⟩) hszW).trans q0
    have r1 := (hBe.cell (p := ⟨w.heap.size, 1, none⟩) hszW).trans q1
    have r2 := (hBe.cell (p := ⟨w.heap.size, 2, none⟩) hszW).trans q2
    go_wp2_with fail
    refine (plus_any _ _ _ _ _ _ _ _ _ ((hs.below (hBe.mono (Nat.le_of_lt hszW))).more (by have := hBe.size; omega)) hG x0 x1 (by omega) (by omega)).mono ?_
    rintro e w2 ⟨rfl, hb2⟩
    have hBe2 := hBe.trans (hb2.mono hBe.size)
    by_cases hz : Ar os x k = 0
    · have hzb : (Ar os x k != 0) = false := by simpa using hz
      have hkg : (k : Int) = Ng os x := hUU.out k (by omega) (by omega) hz
      have hK := hide hkg
      clear hkg hz
      go_wp2_with fail
      go_ret
      exact ⟨by rw [← hK.out]; rfl, hbW.trans (hBe2.mono (Nat.le_of_lt hszW))⟩
    · have hzb : (Ar os x k != 0) = true := by simpa using hz
      have hkg : k ≠ g := fun e => hz (by rw [e, ← hGG.out]; exact hNN.out)
      clear hz
      go_wp2_with fail
      go_roundw
      case rel => exact ⟨k + 1, by omega, by go_num, hBe2⟩
      case measure => simp [intOf] <;> omega
end Go.Proofs.Ytneflhachjlmkaa
