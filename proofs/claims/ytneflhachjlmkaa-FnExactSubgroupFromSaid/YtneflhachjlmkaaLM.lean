
/- The laws' own helpers on metrics: szInt64S, szMetric, toMetric. -/
import Derived.Test.YtneflhachjlmkaaW1
import Derived.Test.YtneflhachjlmkaaW2
import Derived.Test.YtneflhachjlmkaaOrd
import Derived.WalkLawsBesides
namespace Go.Proofs.Ytneflhachjlmkaa
open Go Go.RowKit
set_option linter.unusedSimpArgs false
set_option linter.unusedVariables false

/-- What is left when n more have come. -/
def szI (l : Int) (n : Nat) : Int := if l - n < 0 then -1 else l - n
theorem szInt64S_any (w : World) (A : Option Addr) (n c : Nat) (l : Int) (hl : 0 ≤ l) (hl1 : l ≤ 1048576) (hn : n ≤ 9223372036854775807) : Calls Try.prog 80 #[.slice A n c, .int .i64 l] w (Qt w (.int .i64 (szI l n))) := by
  have hw : wrap64 (l - n) = l - n := wrap64_ok _ ⟨by omega, by omega⟩
  have hw' : IntKind.i64.wrap (l - n) = l - n := by rw [wrap_eq, hw]
  by_cases h : l - n < 0
  · have e : szI l n = -1 := if_pos h
    have hE := hide e
    clear e
    go_enter Try.func80, Try.ntmps80
    go_wp2
    go_ret
    exact Qt.mk' 0 rfl (int_eq hE.out.symm)
  · have e : szI l n = l - n := if_neg h
    have hE := hide e
    clear e
    go_enter Try.func80, Try.ntmps80
    go_wp2
    go_ret
    exact Qt.mk' 0 rfl (int_eq hE.out.symm)
theorem szI_pos {l : Int} {n : Nat} (h : 0 ≤ szI l n) : szI l n = l - n ∧ (n : Int) ≤ l := by
  unfold szI at *
  split at h
  · omega
  · rename_i h2; rw [if_neg h2]; omega
def szM (l : Int) (n m : Nat) : Int := if szI l n < 0 then -1 else if szI (szI l n) m < 0 then -1 else szI (szI l n) m
theorem szM_pos {l : Int} {n m : Nat} (h : 0 ≤ szM l n m) : szM l n m = l - n - m ∧ (n : Int) + m ≤ l := by
  unfold szM at *
  split at h
  · omega
  · rename_i h1
    split at h
    · omega
    · rename_i h2
      rw [if_neg h1, if_neg h2]
      have a := szI_pos (l := l) (n := n) (by omega)
      have b := szI_pos (l := szI l n) (n := m) (by omega)
      omega
theorem szMetric_any (w : World) (A A' : Option Addr) (n c n' c' : Nat) (D : Int) (l : Int) (hl : 0 ≤ l) (hl1 : l ≤ 1048576) (hn : n ≤ 9223372036854775807) (hn' : n' ≤ 9223372036854775807) :
    Calls Try.prog 13 #[.agg #[.slice A n c, .int .i64 D, .slice A' n' c'], .int .i64 l] w (Re w (.int .i64 (szM l n n'))) := by
  have hS1 := fun W => szInt64S_any W A n c l hl hl1 hn
  obtain ⟨l1, e1⟩ : ∃ l1, szI l n = l1 := ⟨_, rfl⟩
  by_cases h1 : l1 < 0
  · have hE := hide (show szM l n n' = -1 by unfold szM; rw [e1, if_pos h1])
    rw [e1] at hS1
    clear e1
    go_enter Try.func13, Try.ntmps13
    go_wp2_with fail
    refine (hS1 _).mono ?_
    rintro e w' ⟨rfl, m, rfl⟩
    go_wp2
    go_ret
    exact ⟨by rw [hE.out]; rfl, (by repeat (first | assumption | exact Below.refl _ _ | apply below_drewN | apply Below.drew | apply Below.alloc | apply Below.setCell | omega | (focus (simp; done)) | (focus (simp; omega))))⟩
  · have f1 := szI_pos (l := l) (n := n) (by omega)
    have hS2 := fun W => szInt64S_any W A' n' c' l1 (by omega) (by omega) hn'
    obtain ⟨l2, e2⟩ : ∃ l2, szI l1 n' = l2 := ⟨_, rfl⟩
    rw [e1] at hS1
    rw [e2] at hS2
    clear f1
    by_cases h2 : l2 < 0
    · have hE := hide (show szM l n n' = -1 by unfold szM; rw [e1, if_neg h1, e2, if_pos h2])
      clear e1 e2
      go_enter Try.func13, Try.ntmps13
      go_wp2_with fail
      refine (hS1 _).mono ?_
      rintro e w' ⟨rfl, m, rfl⟩
      go_wp2_with fail
      refine (hS2 _).mono ?_
      rintro e w' ⟨rfl, m, rfl⟩
      go_wp2
      go_ret
      exact ⟨by rw [hE.out]; rfl, (by repeat (first | assumption | exact Below.refl _ _ | apply below_drewN | apply Below.drew | apply Below.alloc | apply Below.setCell | omega | (focus (simp; done)) | (focus (simp; omega))))⟩
    · have hE := hide (show szM l n n' = l2 by unfold szM; rw [e1, if_neg h1, e2, if_neg h2])
      clear e1 e2
      go_enter Try.func13, Try.ntmps13
      go_wp2_with fail
      refine (hS1 _).mono ?_
      rintro e w' ⟨rfl, m, rfl⟩
      go_wp2_with fail
      refine (hS2 _).mono ?_
      rintro e w' ⟨rfl, m, rfl⟩
      go_wp2
      go_ret
      exact ⟨by rw [hE.out]; rfl, (by repeat (first | assumption | exact Below.refl _ _ | apply below_drewN | apply Below.drew | apply Below.alloc | apply Below.setCell | omega | (focus (simp; done)) | (focus (simp; omega))))⟩
/-- A metric of its own that reads as these lists. -/
def MkS (w : World) (os : List Int) (D : Int) (vs : List Int) (e : Ending) (w' : World) : Prop :=
  ∃ A1 c1 A2 c2, e = .returned (.agg #[.slice A1 os.length c1, .int .i64 D, .slice A2 vs.length c2]) ∧ Sl w' w'.heap.size A1 os.length c1 os ∧ Sl w' w'.heap.size A2 vs.length c2 vs ∧ Below w.heap.size w w'
theorem toMetric_any (w : World) (B : Nat) (A A' : Option Addr) (n c n' c' : Nat) (os vs : List Int) (D : Int) (h : Sl w B A n c os) (h' : Sl w B A' n' c' vs) (hB : B ≤ w.heap.size) (hn : n ≤ 1048576) (hn' : n' ≤ 1048576) :
    Calls Try.prog 15 #[.agg #[.slice A n c, .int .i64 D, .slice A' n' c']] w (MkS w os D vs) := by
  obtain rfl := h.len
  obtain rfl := h'.len
  go_enter Try.func15, Try.ntmps15
  go_wp2_with fail
  refine (toInt64S_any _ w.heap.size _ _ _ _ ((h.below (by repeat (first | assumption | exact Below.refl _ _ | apply below_drewN | apply Below.drew | apply Below.alloc | apply Below.setCell | omega | (focus (simp; done)) | (focus (simp; omega))))).more hB) (by simp; omega) hn).mono ?_
  rintro e w1 ⟨v1, rfl, ho1, hb1⟩
  obtain ⟨A1, c1, rfl⟩ := ho1.val
  have ba : Blk w1 w.heap.size 24 #[.slice A os.length c, .int .i64 D, .slice A' vs.length c'] := Blk.all (((Blk.new _ _ _).alloc _).alloc _) hb1
  have br : Blk w1 (w.heap.size + 1) 28 #[.slice none 0 0, .int .i64 0, .slice none 0 0] := Blk.all ((Blk.new' _ _ _ _ (by simp)).alloc _) hb1
  have bo : Blk w1 (w.heap.size + 1 + 1) 28 #[.slice none 0 0, .int .i64 0, .slice none 0 0] := Blk.all (Blk.new' _ _ _ _ (by simp)) hb1
  have hbw1 : Below w.heap.size w w1 := Below.trans (by repeat (first | assumption | exact Below.refl _ _ | apply below_drewN | apply Below.drew | apply Below.alloc | apply Below.setCell | omega | (focus (simp; done)) | (focus (simp; omega)))) (hb1.mono (by simp; omega))
  have hsz1 := hb1.size
  simp only [World.size_alloc] at hsz1
  clear hb1
  have bo2 := (bo.store 0 (.slice A1 os.length c1)).store 1 (.int .i64 D)
  have ba2 := (ba.far (p := ⟨w.heap.size + 1 + 1, 0, none⟩) (by simp; omega) (.slice A1 os.length c1)).far (p := ⟨w.heap.size + 1 + 1, 1, none⟩) (by simp; omega) (.int .i64 D)
  have br2 := (br.far (p := ⟨w.heap.size + 1 + 1, 0, none⟩) (by simp) (.slice A1 os.length c1)).far (p := ⟨w.heap.size + 1 + 1, 1, none⟩) (by simp) (.int .i64 D)
  have ho2 := (ho1.setCell bo (by decide) 0 (.slice A1 os.length c1)).setCell (bo.store 0 (.slice A1 os.length c1)) (by decide) 1 (.int .i64 D)
  have hbw2 := (hbw1.setCell (p := ⟨w.heap.size + 1 + 1, 0, none⟩) (by simp; omega) (.slice A1 os.length c1)).setCell (p := ⟨w.heap.size + 1 + 1, 1, none⟩) (by simp; omega) (.int .i64 D)
  have z0 := ba.cell 0
  have z1 := ba.cell 1
  have z2 := ba2.cell 2
  have y0 := bo.cell 0
  have y1 := bo.cell 1
  have y2 := bo.cell 2
  have f0 := bo.frozen 0
  have f1 := bo.frozen 1
  go_wp2_with fail
  refine (toInt64S_any _ w.heap.size _ _ _ _ ((h'.more hB).below hbw2) (by have := hbw2.size; omega) hn').mono ?_
  rintro e w3 ⟨v2, rfl, ho3, hb3⟩
  obtain ⟨A2, c2, rfl⟩ := ho3.val
  have bo3 := bo2.all hb3
  have br3 := br2.all hb3
  have hoa := ho2.below hb3
  have hbw3 := hbw2.trans (hb3.mono hbw2.size)
  clear z0 z1 z2 y0 y1 y2 f0 f1 hb3
  have bo4 := bo3.store 2 (.slice A2 vs.length c2)
  have br4 := br3.far (p := ⟨w.heap.size + 1 + 1, 2, none⟩) (by simp) (.slice A2 vs.length c2)
  have ho4 := hoa.setCell bo3 (by decide) 2 (.slice A2 vs.length c2)
  have ho5 := ho3.setCell bo3 (by decide) 2 (.slice A2 vs.length c2)
  have hbw4 := hbw3.setCell (p := ⟨w.heap.size + 1 + 1, 2, none⟩) (by simp; omega) (.slice A2 vs.length c2)
  have z0 := bo4.cell 0
  have z1 := bo4.cell 1
  have z2 := bo4.cell 2
  have y2 := bo3.cell 2
  have f2 := bo3.frozen 2
  have x0 := br4.cell 0
  have x1 := br4.cell 1
  have x2 := br4.cell 2
  have g0 := br4.frozen 0
  have g1 := br4.frozen 1
  have g2 := br4.frozen 2
  go_wp2_with fail
  have hb3 := put3_blk (x := .slice A1 os.length c1) (y := .int .i64 D) (z := .slice A2 vs.length c2) br4
  have q0 := hb3.cell 0
  have q1 := hb3.cell 1
  have q2 := hb3.cell 2
  unfold put3 at q0 q1 q2
  refine bodyPost_ret (v := .agg #[.slice A1 os.length c1, .int .i64 D, .slice A2 vs.length c2]) (by simp [results, Try.results15, go_sem, q0, q1, q2]) rfl ?_
  have p1 := put3_own (x := .slice A1 os.length c1) (y := .int .i64 D) (z := .slice A2 vs.length c2) br4 (by decide) ho4
  have p2 := put3_own (x := .slice A1 os.length c1) (y := .int .i64 D) (z := .slice A2 vs.length c2) br4 (by decide) ho5
  obtain ⟨A3, c3, e3, s3⟩ := p1.sl h.rng
  obtain ⟨A4, c4, e4, s4⟩ := p2.sl h'.rng
  cases e3
  cases e4
  exact ⟨_, _, _, _, rfl, s3, s4, put3_below hbw4 (by omega)⟩
end Go.Proofs.Ytneflhachjlmkaa
