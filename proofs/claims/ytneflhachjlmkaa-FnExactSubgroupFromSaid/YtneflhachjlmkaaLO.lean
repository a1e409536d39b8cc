
/- What toMetric makes is its own; what marking leaves alone. -/
import Derived.Test.YtneflhachjlmkaaLM
import Derived.Test.YtneflhachjlmkaaMet
import Derived.WalkLawsBesides
namespace Go.Proofs.Ytneflhachjlmkaa
open Go Go.RowKit
set_option linter.unusedSimpArgs false
set_option linter.unusedVariables false

theorem Ow.block {w w' : World} {B : Nat} {v : Value} {xs : List Int} (h : Ow w B v xs) (hb : ∀ b, v.ownBlock = some b → w'.heap[b]? = w.heap[b]?) : Ow w' B v xs := by
  obtain ⟨h1, h2⟩ := h
  refine ⟨h1, ?_⟩
  rcases h2 with h2 | ⟨g, cap, cur, rfl, hg, hh, h3⟩
  · exact .inl h2
  · exact .inr ⟨g, cap, cur, rfl, hg, (hb g rfl).trans hh, h3⟩
theorem MrkM.ow {w w' : World} {B B' : Nat} {v1 v2 v : Value} {os vs xs : List Int} {k : Int} {e : Ending} (h : MrkM w B v1 v2 os vs k e w') (ho : Ow w B' v xs) (h1 : Apart v v1) (h2 : Apart v v2) : Ow w' B' v xs :=
  ho.block fun b hb => h.2.2.2.2.2.2.2 b (ho.lt b hb).2 (h1 b hb) (h2 b hb)
/-- What lies from a later block on lies apart. -/
theorem Ow.apart {w w' : World} {B B' : Nat} {v v' : Value} {xs ys : List Int} (h : Ow w B v xs) (h' : Ow w' B' v' ys) (hB : w.heap.size ≤ B') : Apart v v' := fun b hb e => by
  have h1 := h.lt b hb
  have h2 := h'.lt b e
  omega
theorem Mrk.keep {w w' : World} {B C : Nat} {v : Value} {xs : List Int} {k : Int} {e : Ending} (h : Mrk w B v xs k e w') (ho : Ow w B v xs) (hC : C ≤ B) (hw : C ≤ w.heap.size) : Below C w w' :=
  ⟨h.2.2.os, h.2.2.tape, h.2.2.output, h.2.2.size, fun b hb => h.2.2.block b (by omega) (fun e => by have := (ho.lt b e.symm).1; omega)⟩

theorem toMetric_own (w : World) (B : Nat) (A A' : Option Addr) (n c n' c' : Nat) (os vs : List Int) (D : Int) (h : Sl w B A n c os) (h' : Sl w B A' n' c' vs) (hB : B ≤ w.heap.size) (hn : n ≤ 1048576) (hn' : n' ≤ 1048576) :
    Calls Try.prog 15 #[.agg #[.slice A n c, .int .i64 D, .slice A' n' c']] w (MkM1 w os D vs) := by
  obtain rfl := h.len
  obtain rfl := h'.len
  go_enter Try.func15, Try.ntmps15
  go_wp2_with fail
  refine (toInt64S_any _ w.heap.size _ _ _ _ ((h.below (by repeat (first | assumption | exact Below.refl _ _ | apply below_drewN | apply Below.drew | apply Below.alloc | apply Below.setCell | omega | (focus (simp; done)) | (focus (simp; omega))))).more hB) (by simp; omega) hn).mono ?_
  rintro e w1 ⟨v1, rfl, ho1, hb1⟩
  obtain ⟨A1, c1, rfl⟩ := ho1.val
  have ba : Blk w1 w.heap.size 24 #[.slice A os.length c, .int .i64 D, .slice A' vs.length c'] := Blk.all (((Blk.new _ _ _).alloc _).alloc _) hb1
  have br : Blk w1 (w.heap.size + 1) 28 #[.slice none 0 0, .int .i64 0, .slice none 0 0] := Blk.all ((Blk.new' _ _ _ _ (by simp)).alloc _) hb1
  have bo : Blk w1 (w.heap.size + 1 + 1) 28 #[.slice none 0 0, .int .i64 0, .slice none 0 0] := Blk.all (Blk.new' _ _ _ _ (by simp)) hb1
  have hbw1 : Below w.heap.size w w1 := Below.trans (by repeat (first | assumption | exact Below.refl _ _ | apply below_drewN | apply Below.drew | apply Below.alloc | apply Below.setCell | omega | (focus (simp; done)) | (focus (simp; omega)))) (hb1.mono (by simp; omega))
  have hsz1 := hb1.size
  simp only [World.size_alloc] at hsz1
  clear hb1
  have bo2 := (bo.store 0 (.slice A1 os.length c1)).store 1 (.int .i64 D)
  have ba2 := (ba.far (p := ⟨w.heap.size + 1 + 1, 0, none⟩) (by simp; omega) (.slice A1 os.length c1)).far (p := ⟨w.heap.size + 1 + 1, 1, none⟩) (by simp; omega) (.int .i64 D)
  have br2 := (br.far (p := ⟨w.heap.size + 1 + 1, 0, none⟩) (by simp) (.slice A1 os.length c1)).far (p := ⟨w.heap.size + 1 + 1, 1, none⟩) (by simp) (.int .i64 D)
  have ho2 := (ho1.setCell bo (by decide) 0 (.slice A1 os.length c1)).setCell (bo.store 0 (.slice A1 os.length c1)) (by decide) 1 (.int .i64 D)
  have hbw2 := (hbw1.setCell (p := ⟨w.heap.size + 1 + 1, 0, none⟩) (by simp; omega) (.slice A1 os.length c1)).setCell (p := ⟨w.heap.size + 1 + 1, 1, none⟩) (by simp; omega) (.int .i64 D)
  have z0 := ba.cell 0
  have z1 := ba.cell 1
  have z2 := ba2.cell 2
  have y0 := bo.cell 0
  have y1 := bo.cell 1
  have y2 := bo.cell 2
  have f0 := bo.frozen 0
  have f1 := bo.frozen 1
  go_wp2_with fail
  refine (toInt64S_any _ w.heap.size _ _ _ _ ((h'.more hB).below hbw2) (by have := hbw2.size; omega) hn').mono ?_
  rintro e w3 ⟨v2, rfl, ho3, hb3⟩
  have hap := ho2.apart ho3 (Nat.le_refl _)
  have ho3 := ho3.less (show w.heap.size ≤ _ from hbw2.size)
  have ho2 := ho2.less (show w.heap.size ≤ _ by simp; omega)
  obtain ⟨A2, c2, rfl⟩ := ho3.val
  have bo3 := bo2.all hb3
  have br3 := br2.all hb3
  have hoa := ho2.below hb3
  have hbw3 := hbw2.trans (hb3.mono hbw2.size)
  clear z0 z1 z2 y0 y1 y2 f0 f1 hb3
  have bo4 := bo3.store 2 (.slice A2 vs.length c2)
  have br4 := br3.far (p := ⟨w.heap.size + 1 + 1, 2, none⟩) (by simp) (.slice A2 vs.length c2)
  have ho4 := hoa.setCell bo3 (by decide) 2 (.slice A2 vs.length c2)
  have ho5 := ho3.setCell bo3 (by decide) 2 (.slice A2 vs.length c2)
  have hbw4 := hbw3.setCell (p := ⟨w.heap.size + 1 + 1, 2, none⟩) (by simp; omega) (.slice A2 vs.length c2)
  have z0 := bo4.cell 0
  have z1 := bo4.cell 1
  have z2 := bo4.cell 2
  have y2 := bo3.cell 2
  have f2 := bo3.frozen 2
  have x0 := br4.cell 0
  have x1 := br4.cell 1
  have x2 := br4.cell 2
  have g0 := br4.frozen 0
  have g1 := br4.frozen 1
  have g2 := br4.frozen 2
  go_wp2_with fail
  have hb3 := put3_blk (x := .slice A1 os.length c1) (y := .int .i64 D) (z := .slice A2 vs.length c2) br4
  have q0 := hb3.cell 0
  have q1 := hb3.cell 1
  have q2 := hb3.cell 2
  unfold put3 at q0 q1 q2
  refine bodyPost_ret (v := .agg #[.slice A1 os.length c1, .int .i64 D, .slice A2 vs.length c2]) (by simp [results, Try.results15, go_sem, q0, q1, q2]) rfl ?_
  have p1 := put3_own (x := .slice A1 os.length c1) (y := .int .i64 D) (z := .slice A2 vs.length c2) br4 (by decide) ho4
  have p2 := put3_own (x := .slice A1 os.length c1) (y := .int .i64 D) (z := .slice A2 vs.length c2) br4 (by decide) ho5
  exact ⟨_, _, rfl, p1, p2, hap, put3_below hbw4 (by omega)⟩

/-- It returned a slice of its own that holds xs, and a code; what lay before lies as it lay. -/
def MkC (w : World) (xs : List Int) (code : Int) (e : Ending) (w' : World) : Prop := ∃ v, e = .returned (.tuple #[v, .int .i64 code]) ∧ Ow w' w.heap.size v xs ∧ Below w.heap.size w w'
theorem Ow.two {w w' : World} {B : Nat} {v : Value} {xs ys : List Int} {A : Option Addr} {n c : Nat} (h : Ow w B v xs) (e : v = .slice A n c) (h' : Ow w' B v ys) (hl : ys.length = n) (hr : ∀ x ∈ ys, i64ok x) : Sl w' w'.heap.size A n c ys := by
  subst hl
  obtain ⟨A2, c2, e2, s2⟩ := h'.sl hr
  rw [e] at e2
  cases e2
  exact s2
theorem Ow.here {w : World} {B : Nat} {xs : List Int} {A : Option Addr} {n c : Nat} (h : Ow w B (.slice A n c) xs) (hl : xs.length = n) (hr : ∀ x ∈ xs, i64ok x) : Sl w w.heap.size A n c xs := h.two rfl h hl hr
end Go.Proofs.Ytneflhachjlmkaa
