
/- The walk of l12Conjugation: where S squared is as that of a nondegenerate metric, and where it is not. -/
import Derived.Test.YtlhfjfpgoaiijaaDm2
import Derived.Test.YtlhfjfpgoaiijaaEa
import Derived.WalkLawsBesides
import Derived.Deep.DeepCutAuto
namespace Go.Proofs.Ytlhfjfpgoaiijaa
open Go Go.RowKit Grp
set_option linter.unusedSimpArgs false
set_option linter.unusedVariables false
set_option maxRecDepth 100000
/-- A row of the table, read as a slice. -/
theorem Vq.sl {w : World} {B n b off : Nat} {b1 o1 c1 : Nat → Nat} {f : Nat → Nat → Int} (h : Vq w B n b off b1 o1 c1 f) {i : Nat} (hi : i < n) (hf : ∀ j, j < n → InP (f i j)) :
    Sl w B (some ⟨b1 i, o1 i, none⟩) n (c1 i) ((List.range n).map (f i)) :=
  ⟨by simp, (h.h1 i hi).2.2, rowR_ok hf, fun _ => ⟨b1 i, o1 i, rfl, (h.h1 i hi).2.1, fun k hk => by
    rw [show gi ((List.range n).map (f i)) k = f i k by simp [gi, List.getD_eq_getElem?_getD, hk]]
    exact h.h2 i k hi hk⟩, fun h => by cases h⟩
theorem gi_row {n j : Nat} {f : Nat → Int} (hj : j < n) : gi ((List.range n).map f) j = f j := by simp [gi, List.getD_eq_getElem?_getD, hj]
theorem sq_view {w : World} {b off n c : Nat} {f : Nat → Nat → Int} {fp : Nat → Prop} (h : E2 w (.slice (some ⟨b, off, none⟩) n c) (mat n f) fp) (hp : 0 < n) : ∃ b1 o1 c1, Vq w w.heap.size n b off b1 o1 c1 f := by
  obtain ⟨A, cc, e, hs⟩ := E2.sl2 h
  injection e with e1 e2 e3
  have hl : (mat n f).length = n := by simp [mat]
  rw [hl] at hs
  obtain ⟨b', off', b1, o1, c1, e4, V⟩ := vq_of hs hp
  rw [← e1] at e4
  injection e4 with e5
  injection e5 with e6 e7
  subst e6 e7
  exact ⟨b1, o1, c1, V⟩
theorem sq_form {w : World} {v : Value} {n : Nat} {f : Nat → Nat → Int} {fp : Nat → Prop} (h : E2 w v (mat n f) fp) (hp : 0 < n) : ∃ b off c, v = .slice (some ⟨b, off, none⟩) n c ∧ n ≤ c := by
  obtain ⟨A, cc, e, hs⟩ := E2.sl2 h
  have hl : (mat n f).length = n := by simp [mat]
  rw [hl] at hs e
  obtain ⟨b', off', b1, o1, c1, e4, V⟩ := vq_of hs hp
  subst e4
  exact ⟨b', off', cc, e, hs.cap⟩
/-- A table that is kept beside a list that grows. -/
structure CJ (W : World) (vq : Value) (sq : List (List Int)) (fp : Nat → Prop) (vo : Value) (os : List Int) (wx : World) : Prop where
  e : E2 wx vq sq fp
  o : Ow wx W.heap.size vo os
  sep : ∀ b, fp b → vo.ownBlock ≠ some b
  k : Below W.heap.size W wx
section
variable {W wx : World} {vq vo : Value} {sq : List (List Int)} {fp : Nat → Prop} {os : List Int}
theorem CJ.drewN (h : CJ W vq sq fp vo os wx) (m : Nat) : CJ W vq sq fp vo os (wx.drewN m) := ⟨E2.below h.e (below_drewN (Below.refl _ _) m), h.o.drewN m, h.sep, below_drewN h.k m⟩
theorem CJ.push {w' : World} {o : Obj} {y : Int} {g cap : Nat} (h : CJ W vq sq fp vo os wx) (hP : Pushed (wx.alloc o) W.heap.size vo os y wx.heap.size g cap w') : CJ W vq sq fp (.slice (some ⟨g, 0, none⟩) (os.length + 1) cap) (os ++ [y]) w' := by
  have hb : Below wx.heap.size wx (wx.alloc o) := (Below.refl _ _).alloc (Nat.le_refl _) _
  have hbd := OwL.bd h.e
  have hs : (wx.alloc o).heap.size = wx.heap.size + 1 := by simp
  have hk := h.k.size
  refine ⟨kp2 _ _ _ _ _ (E2.below h.e hb) (fun b hf => hP.2.1.block b (by have := hbd b hf; omega) fun e => h.sep b hf e.symm) hP.2.1.size, hP.own, fun b hf e => ?_, h.k.trans ((hb.mono hk).trans (hP.below (h.o.alloc _) (by omega)))⟩
  have e' : g = b := by simpa [Value.ownBlock] using e
  subst e'
  rcases hP.2.2.1 with h1 | h1
  · exact h.sep _ hf h1
  · have := hbd _ hf; omega
end
/-- The conjugation is told by S squared. -/
structure CjOk (n : Nat) (f : Nat → Nat → Int) (t : Nat → Int) (N : Int) (cf : Nat → Nat) : Prop where
  wh : whS n f = N
  n1 : 1 ≤ N
  n2 : N < 55441
  sq : ∀ i k, i < n → k < n → tmS n f f i k = if k = cf i then N else 0
  lt : ∀ i, i < n → cf i < n
  inj : ∀ i j, i < n → j < n → cf i = cf j → i = j
  zero : cf 0 = 0
  t : ∀ i, i < n → t (cf i) = t i
def cjL (cf : Nat → Nat) (k : Nat) : List Int := (List.range k).map fun i => ((cf i : Nat) : Int)
theorem cjL_len (cf : Nat → Nat) (k : Nat) : (cjL cf k).length = k := by simp [cjL]
theorem cjL_succ (cf : Nat → Nat) (k : Nat) : cjL cf k ++ [((cf k : Nat) : Int)] = cjL cf (k + 1) := by simp [cjL, List.range_succ]
theorem cjL_gi {cf : Nat → Nat} {k j : Nat} (h : j < k) : gi (cjL cf k) j = (cf j : Nat) := gi_row h
theorem CjOk.idx {n : Nat} {f : Nat → Nat → Int} {t : Nat → Int} {N : Int} {cf : Nat → Nat} (h : CjOk n f t N cf) {i : Nat} (hi : i < n) : idxF ((List.range n).map (tmS n f f i)) N = (cf i : Nat) := by
  have hl := h.lt i hi
  refine idxF_at (by simpa using hl) ?_ fun j hj => ?_
  · rw [gi_row hl, h.sq i _ hi hl, if_pos rfl]
  · rw [gi_row (by omega), h.sq i j hi (by omega), if_neg (by omega)]
    have := h.n1
    omega
theorem CjOk.has {n : Nat} {f : Nat → Nat → Int} {t : Nat → Int} {N : Int} {cf : Nat → Nat} (h : CjOk n f t N cf) {i : Nat} (hi : i < n) : hasB (cjL cf i) (cf i : Nat) = false := by
  refine hasB_f fun j hj => ?_
  rw [cjL_len] at hj
  rw [cjL_gi hj]
  intro e
  have := h.inj j i (by omega) hi (by omega)
  omega
theorem cjL_ok {n : Nat} {cf : Nat → Nat} (h : ∀ i, i < n → cf i < n) (hn : n ≤ 16) {k : Nat} (hk : k ≤ n) : ∀ x ∈ cjL cf k, i64ok x := by
  intro x hx
  unfold cjL at hx
  obtain ⟨j, hj, rfl⟩ := List.mem_map.1 hx
  have := h j (by have := List.mem_range.1 hj; omega)
  exact ⟨by omega, by omega⟩
set_option maxHeartbeats 8000000 in
theorem l12Conjugation_yes (w : World) (b off n c : Nat) (b1 o1 c1 : Nat → Nat) (f : Nat → Nat → Int) (A' : Option Addr) (c' : Nat) (ts : List Int) (V : Vq w w.heap.size n b off b1 o1 c1 f) (hT : Sl w w.heap.size A' n c' ts) (hn : n ≤ 16) (hp : 0 < n) (hc : n ≤ c) (hf : ∀ i j, i < n → j < n → InP (f i j))
    (N : Int) (cf : Nat → Nat) (hcj : CjOk n f (fun i => gi ts i) N cf) :
    Calls Try.prog 55 #[.agg #[.slice (some ⟨b, off, none⟩) n c, .slice A' n c']] w (Mk w (cjL cf n)) := by
  have HCJ := hide hcj
  clear hcj
  go_enter Try.func55, Try.ntmps55
  go_wp2_with fail
  obtain ⟨W, hW⟩ : ∃ W, w.alloc (.cells #[.slice (some ⟨b, off, none⟩) n c, .slice A' n c'] 28) = W := ⟨_, rfl⟩
  have hbW : Below w.heap.size w W := by rw [← hW]; exact (by repeat (first | assumption | exact Below.refl _ _ | apply below_drewN | apply Below.drew | apply Below.alloc | apply Below.setCell | omega | (focus (simp; done)) | (focus (simp; omega))))
  have hszW : W.heap.size = w.heap.size + 1 := by rw [← hW]; simp
  have q0 : W.cell? ⟨w.heap.size, 0, none⟩ = some (.slice (some ⟨b, off, none⟩) n c) := by rw [← hW]; exact (Blk.new _ _ _).cell 0
  have q1 : W.cell? ⟨w.heap.size, 1, none⟩ = some (.slice A' n c') := by rw [← hW]; exact (Blk.new _ _ _).cell 1
  rw [hW]
  clear hW
  replace V := V.all hbW
  replace hT := (hT.below hbW).more hbW.size
  have hlW : w.heap.size < W.heap.size := by omega
  have HTm := hide (fun wd (h : Below W.heap.size W wd) => l12Times_any wd b off n c b1 o1 c1 f b off c b1 o1 c1 f (V.all h) (V.all h) hn hp hc hc hf hf)
  have HWh := hide (fun wd (h : Below W.heap.size W wd) => l12Whole_any wd b off n c b1 o1 c1 f A' c' ts (V.all h) ((hT.below h).more h.size) hn hp hc hf)
  go_upto_region 1 with fail
  go_cut [3, 4, 5] (fun s3 s4 s5 wx => ∃ vq g fp, s3 = vq ∧ s4 = .int .i64 (whS n f) ∧ s5 = .slice (some ⟨g, 0, none⟩) 0 0 ∧ E2 wx vq (mat n (tmS n f f)) fp ∧ (∀ b, fp b → b ≠ g) ∧ W.heap.size ≤ g ∧ Ow wx W.heap.size (.slice (some ⟨g, 0, none⟩) 0 0) [] ∧ Below W.heap.size W wx)
  case first =>
    refine wp_region_bt (.one 0 (.one 1 (.one 2 (.one 3 (.one 5 (.two 4 (.two 6 (.one 8 (.one 9 (.one 7 (.one 10 .nil)))) 7 (.one 6 (.one 8 (.one 9 (.one 10 .nil))))) 7 (.one 4 (.one 6 (.one 8 (.one 9 (.one 10 .nil))))))))))) 11 W.heap.size W (by kernel_rfl) (by kernel_rfl) (by kernel_rfl) (fun _ _ _ _ _ h => h) (Below.refl _ _) (fun wd hBe => ?_)
    repeat (first | (apply ot_tk rfl (by rfl) (by rfl) (by rfl); (focus (intro wx hSw; have r0 := (hSw.cell (p := ⟨w.heap.size, 0, none⟩) hlW).trans q0; have r1 := (hSw.cell (p := ⟨w.heap.size, 1, none⟩) hlW).trans q1; go_simp; (try with_reducible rfl))); (try simp only [Act.put, List.setIfInBounds_toArray, List.set_cons_zero, List.set_cons_succ])) | (apply ot_skip rfl (by rfl) (by rfl) (fun _ => hBe); (try simp only [Act.put, List.setIfInBounds_toArray, List.set_cons_zero, List.set_cons_succ])))
    refine ot_two ?_ ?_
    · skip
      (refine ot_do rfl (by rfl) (by rfl) (fun K hK => ?_); go_simp; refine (HTm.out _ hBe).mono ?_; rintro e wt ⟨vq, rfl, hE, hb2⟩; have zT := hb2.size; (try replace hO := hO.below hb2); replace hBe := hBe.trans (hb2.mono hBe.size); clear hb2; refine hK.out _ _ (fun _ => hBe) ?_; (try simp only [Act.put, List.setIfInBounds_toArray, List.set_cons_zero, List.set_cons_succ]); clear hK K)
      repeat (first | (apply ot_tk rfl (by rfl) (by rfl) (by rfl); (focus (intro wx hSw; have r0 := (hSw.cell (p := ⟨w.heap.size, 0, none⟩) hlW).trans q0; have r1 := (hSw.cell (p := ⟨w.heap.size, 1, none⟩) hlW).trans q1; go_simp; (try with_reducible rfl))); (try simp only [Act.put, List.setIfInBounds_toArray, List.set_cons_zero, List.set_cons_succ])) | (apply ot_skip rfl (by rfl) (by rfl) (fun _ => hBe); (try simp only [Act.put, List.setIfInBounds_toArray, List.set_cons_zero, List.set_cons_succ])))
      refine ot_two ?_ ?_
      · skip
        (refine ot_do rfl (by rfl) (by rfl) (fun K hK => ?_); go_simp; refine (HWh.out _ hBe).mono ?_; rintro e wh ⟨rfl, hb2⟩; have zW := hb2.size; (try replace hO := hO.below hb2); replace hE := E2.below hE hb2; replace hBe := hBe.trans (hb2.mono hBe.size); clear hb2; refine hK.out _ _ (fun _ => hBe) ?_; (try simp only [Act.put, List.setIfInBounds_toArray, List.set_cons_zero, List.set_cons_succ]); clear hK K)
        repeat (first | (apply ot_tk rfl (by rfl) (by rfl) (by rfl); (focus (intro wx hSw; have r0 := (hSw.cell (p := ⟨w.heap.size, 0, none⟩) hlW).trans q0; have r1 := (hSw.cell (p := ⟨w.heap.size, 1, none⟩) hlW).trans q1; go_simp; (try with_reducible rfl))); (try simp only [Act.put, List.setIfInBounds_toArray, List.set_cons_zero, List.set_cons_succ])) | (apply ot_skip rfl (by rfl) (by rfl) (fun _ => hBe); (try simp only [Act.put, List.setIfInBounds_toArray, List.set_cons_zero, List.set_cons_succ])))
        (refine ot_do rfl (by rfl) (by rfl) (fun K hK => ?_); go_simp; obtain ⟨g, hg⟩ : ∃ g, wh.heap.size = g := ⟨_, rfl⟩; have hO : Ow (wh.alloc (.cells #[] 2)) W.heap.size (.slice (some ⟨g, 0, none⟩) 0 0) [] := Ow.made' _ _ _ _ hg rfl (Nat.le_trans hBe.size (Nat.le_of_eq hg)) rfl (Nat.zero_le _); have hgW : W.heap.size ≤ g := Nat.le_trans hBe.size (Nat.le_of_eq hg); have hb2 : Below wh.heap.size wh (wh.alloc (.cells #[] 2)) := (Below.refl _ _).alloc (Nat.le_refl _) _; have zA : g < (wh.alloc (.cells #[] 2)).heap.size := Nat.lt_of_lt_of_le (Nat.lt_succ_of_le (Nat.le_of_eq hg.symm)) (by simp); (try replace hE := E2.below hE hb2); replace hBe := hBe.trans (hb2.mono hBe.size); clear hb2; obtain ⟨wa, hwa⟩ : ∃ wa, wh.alloc (.cells #[] 2) = wa := ⟨_, rfl⟩; rw [hg]; rw [hwa] at hO hBe zA ⊢; (try rw [hwa] at hE); clear hwa; refine hK.out _ _ (fun _ => hBe) ?_; (try simp only [Act.put, List.setIfInBounds_toArray, List.set_cons_zero, List.set_cons_succ]); clear hK K)
        repeat (first | (apply ot_tk rfl (by rfl) (by rfl) (by rfl); (focus (intro wx hSw; have r0 := (hSw.cell (p := ⟨w.heap.size, 0, none⟩) hlW).trans q0; have r1 := (hSw.cell (p := ⟨w.heap.size, 1, none⟩) hlW).trans q1; go_simp; (try with_reducible rfl))); (try simp only [Act.put, List.setIfInBounds_toArray, List.set_cons_zero, List.set_cons_succ])) | (apply ot_skip rfl (by rfl) (by rfl) (fun _ => hBe); (try simp only [Act.put, List.setIfInBounds_toArray, List.set_cons_zero, List.set_cons_succ])))
        refine ot_nil ?_
        go_wp2_with fail
        go_meet
        exact ⟨vq, g, _, rfl, rfl, rfl, hE, fun b hb => by omega, hgW, hO, hBe⟩
      · skip
        (refine ot_do rfl (by rfl) (by rfl) (fun K hK => ?_); go_simp; obtain ⟨g, hg⟩ : ∃ g, wt.heap.size = g := ⟨_, rfl⟩; have hO : Ow (wt.alloc (.cells #[] 2)) W.heap.size (.slice (some ⟨g, 0, none⟩) 0 0) [] := Ow.made' _ _ _ _ hg rfl (Nat.le_trans hBe.size (Nat.le_of_eq hg)) rfl (Nat.zero_le _); have hgW : W.heap.size ≤ g := Nat.le_trans hBe.size (Nat.le_of_eq hg); have hb2 : Below wt.heap.size wt (wt.alloc (.cells #[] 2)) := (Below.refl _ _).alloc (Nat.le_refl _) _; have zA : g < (wt.alloc (.cells #[] 2)).heap.size := Nat.lt_of_lt_of_le (Nat.lt_succ_of_le (Nat.le_of_eq hg.symm)) (by simp); (try replace hE := E2.below hE hb2); replace hBe := hBe.trans (hb2.mono hBe.size); clear hb2; obtain ⟨wa, hwa⟩ : ∃ wa, wt.alloc (.cells #[] 2) = wa := ⟨_, rfl⟩; rw [hg]; rw [hwa] at hO hBe zA ⊢; (try rw [hwa] at hE); clear hwa; refine hK.out _ _ (fun _ => hBe) ?_; (try simp only [Act.put, List.setIfInBounds_toArray, List.set_cons_zero, List.set_cons_succ]); clear hK K)
        repeat (first | (apply ot_tk rfl (by rfl) (by rfl) (by rfl); (focus (intro wx hSw; have r0 := (hSw.cell (p := ⟨w.heap.size, 0, none⟩) hlW).trans q0; have r1 := (hSw.cell (p := ⟨w.heap.size, 1, none⟩) hlW).trans q1; go_simp; (try with_reducible rfl))); (try simp only [Act.put, List.setIfInBounds_toArray, List.set_cons_zero, List.set_cons_succ])) | (apply ot_skip rfl (by rfl) (by rfl) (fun _ => hBe); (try simp only [Act.put, List.setIfInBounds_toArray, List.set_cons_zero, List.set_cons_succ])))
        (refine ot_do rfl (by rfl) (by rfl) (fun K hK => ?_); go_simp; refine (HWh.out _ hBe).mono ?_; rintro e wh ⟨rfl, hb2⟩; have zW := hb2.size; (try replace hO := hO.below hb2); replace hE := E2.below hE hb2; replace hBe := hBe.trans (hb2.mono hBe.size); clear hb2; refine hK.out _ _ (fun _ => hBe) ?_; (try simp only [Act.put, List.setIfInBounds_toArray, List.set_cons_zero, List.set_cons_succ]); clear hK K)
        repeat (first | (apply ot_tk rfl (by rfl) (by rfl) (by rfl); (focus (intro wx hSw; have r0 := (hSw.cell (p := ⟨w.heap.size, 0, none⟩) hlW).trans q0; have r1 := (hSw.cell (p := ⟨w.heap.size, 1, none⟩) hlW).trans q1; go_simp; (try with_reducible rfl))); (try simp only [Act.put, List.setIfInBounds_toArray, List.set_cons_zero, List.set_cons_succ])) | (apply ot_skip rfl (by rfl) (by rfl) (fun _ => hBe); (try simp only [Act.put, List.setIfInBounds_toArray, List.set_cons_zero, List.set_cons_succ])))
        refine ot_nil ?_
        go_wp2_with fail
        go_meet
        exact ⟨vq, g, _, rfl, rfl, rfl, hE, fun b hb => by omega, hgW, hO, hBe⟩
    · skip
      (refine ot_do rfl (by rfl) (by rfl) (fun K hK => ?_); go_simp; obtain ⟨g, hg⟩ : ∃ g, wd.heap.size = g := ⟨_, rfl⟩; have hO : Ow (wd.alloc (.cells #[] 2)) W.heap.size (.slice (some ⟨g, 0, none⟩) 0 0) [] := Ow.made' _ _ _ _ hg rfl (Nat.le_trans hBe.size (Nat.le_of_eq hg)) rfl (Nat.zero_le _); have hgW : W.heap.size ≤ g := Nat.le_trans hBe.size (Nat.le_of_eq hg); have hb2 : Below wd.heap.size wd (wd.alloc (.cells #[] 2)) := (Below.refl _ _).alloc (Nat.le_refl _) _; have zA : g < (wd.alloc (.cells #[] 2)).heap.size := Nat.lt_of_lt_of_le (Nat.lt_succ_of_le (Nat.le_of_eq hg.symm)) (by simp); (try replace hE := E2.below hE hb2); replace hBe := hBe.trans (hb2.mono hBe.size); clear hb2; obtain ⟨wa, hwa⟩ : ∃ wa, wd.alloc (.cells #[] 2) = wa := ⟨_, rfl⟩; rw [hg]; rw [hwa] at hO hBe zA ⊢; (try rw [hwa] at hE); clear hwa; refine hK.out _ _ (fun _ => hBe) ?_; (try simp only [Act.put, List.setIfInBounds_toArray, List.set_cons_zero, List.set_cons_succ]); clear hK K)
      repeat (first | (apply ot_tk rfl (by rfl) (by rfl) (by rfl); (focus (intro wx hSw; have r0 := (hSw.cell (p := ⟨w.heap.size, 0, none⟩) hlW).trans q0; have r1 := (hSw.cell (p := ⟨w.heap.size, 1, none⟩) hlW).trans q1; go_simp; (try with_reducible rfl))); (try simp only [Act.put, List.setIfInBounds_toArray, List.set_cons_zero, List.set_cons_succ])) | (apply ot_skip rfl (by rfl) (by rfl) (fun _ => hBe); (try simp only [Act.put, List.setIfInBounds_toArray, List.set_cons_zero, List.set_cons_succ])))
      (refine ot_do rfl (by rfl) (by rfl) (fun K hK => ?_); go_simp; refine (HTm.out _ hBe).mono ?_; rintro e wt ⟨vq, rfl, hE, hb2⟩; have zT := hb2.size; (try replace hO := hO.below hb2); replace hBe := hBe.trans (hb2.mono hBe.size); clear hb2; refine hK.out _ _ (fun _ => hBe) ?_; (try simp only [Act.put, List.setIfInBounds_toArray, List.set_cons_zero, List.set_cons_succ]); clear hK K)
      repeat (first | (apply ot_tk rfl (by rfl) (by rfl) (by rfl); (focus (intro wx hSw; have r0 := (hSw.cell (p := ⟨w.heap.size, 0, none⟩) hlW).trans q0; have r1 := (hSw.cell (p := ⟨w.heap.size, 1, none⟩) hlW).trans q1; go_simp; (try with_reducible rfl))); (try simp only [Act.put, List.setIfInBounds_toArray, List.set_cons_zero, List.set_cons_succ])) | (apply ot_skip rfl (by rfl) (by rfl) (fun _ => hBe); (try simp only [Act.put, List.setIfInBounds_toArray, List.set_cons_zero, List.set_cons_succ])))
      (refine ot_do rfl (by rfl) (by rfl) (fun K hK => ?_); go_simp; refine (HWh.out _ hBe).mono ?_; rintro e wh ⟨rfl, hb2⟩; have zW := hb2.size; (try replace hO := hO.below hb2); replace hE := E2.below hE hb2; replace hBe := hBe.trans (hb2.mono hBe.size); clear hb2; refine hK.out _ _ (fun _ => hBe) ?_; (try simp only [Act.put, List.setIfInBounds_toArray, List.set_cons_zero, List.set_cons_succ]); clear hK K)
      repeat (first | (apply ot_tk rfl (by rfl) (by rfl) (by rfl); (focus (intro wx hSw; have r0 := (hSw.cell (p := ⟨w.heap.size, 0, none⟩) hlW).trans q0; have r1 := (hSw.cell (p := ⟨w.heap.size, 1, none⟩) hlW).trans q1; go_simp; (try with_reducible rfl))); (try simp only [Act.put, List.setIfInBounds_toArray, List.set_cons_zero, List.set_cons_succ])) | (apply ot_skip rfl (by rfl) (by rfl) (fun _ => hBe); (try simp only [Act.put, List.setIfInBounds_toArray, List.set_cons_zero, List.set_cons_succ])))
      refine ot_nil ?_
      go_wp2_with fail
      go_meet
      exact ⟨vq, g, _, rfl, rfl, rfl, hE, fun b hb => by omega, hgW, hO, hBe⟩
  case rest =>
    obtain ⟨vq, g, fp, rfl, rfl, rfl, hE, hsep, hgW, hO, hBe⟩ := hcut
    obtain ⟨bq, oq, cq, rfl, hcq⟩ := sq_form hE hp
    clear HTm HWh
    have hC0 : CJ W (.slice (some ⟨bq, oq, none⟩) n cq) (mat n (tmS n f f)) fp (.slice (some ⟨g, 0, none⟩) 0 0) (cjL cf 0) wc := ⟨hE, hO, fun b hb e => hsep b hb (by simpa [Value.ownBlock] using e.symm), hBe⟩
    have hwv := HCJ.out.wh
    rw [hwv]
    have N1 := HCJ.out.n1
    have N2 := HCJ.out.n2
    clear hE hsep hgW hO hBe hwv
    obtain ⟨bt', ot', rfl, hbt, hct⟩ := hT.at_ hp
    have HCT := hide hct
    have hcT := hT.cap
    clear hct
    go_wp2_with fail
    go_loopw [5, 6] (fun o i wr => ∃ (k : Nat) (vv : Value), k ≤ n ∧ i = .int .i64 k ∧ vv = o ∧ CJ W (.slice (some ⟨bq, oq, none⟩) n cq) (mat n (tmS n f f)) fp vv (cjL cf k) wr) (fun _ i _ => n - (intOf i).toNat)
    case atStart => exact ⟨0, _, by omega, rfl, rfl, hC0⟩
    case round =>
      clear hC0
      obtain ⟨k, vv, hk, rfl, rfl, hC⟩ := hrel
      have q1' := (hC.k.cell (p := ⟨w.heap.size, 1, none⟩) hlW).trans q1
      by_cases hlt : k < n
      · obtain ⟨b2, o2, c2, U⟩ := sq_view hC.e hp
        have hUs := U.sl hlt (fun j _ => tmS_in n f f k j)
        have z0 := (U.h1 k hlt).1
        have z2 := (U.h1 k hlt).2.2
        have hcl := HCJ.out.lt k hlt
        have HI := hide (l01Index_any wr _ _ _ _ _ N hUs (by omega))
        rw [HCJ.out.idx hlt] at HI
        have HSQ := hide (fun z (hz : z < n) => (U.h2 k z hlt hz).trans (by rw [HCJ.out.sq k z hlt hz]))
        obtain ⟨ck, hck⟩ : ∃ ck, cf k = ck := ⟨_, rfl⟩
        rw [hck] at HI hcl HSQ
        have HCK := hide hck
        clear hUs U hck
        go_wp2_with fail
        refine HI.out.mono ?_
        rintro e w' ⟨rfl, m, rfl⟩
        clear HI
        replace hC := hC.drewN m
        replace z0 : (wr.drewN m).cell? ⟨bq, oq + k, none⟩ = some (.slice (some ⟨b2 k, o2 k, none⟩) n (c2 k)) := z0
        replace HSQ := hide (show ∀ z, z < n → (wr.drewN m).cell? ⟨b2 k, o2 k + z, none⟩ = some (.int .i64 (if z = ck then N else 0)) from HSQ.out)
        replace q1' : (wr.drewN m).cell? ⟨w.heap.size, 1, none⟩ = some (.slice (some ⟨bt', ot', none⟩) n c') := q1'
        obtain ⟨w2, hw2⟩ : ∃ w2, wr.drewN m = w2 := ⟨_, rfl⟩
        rw [hw2] at hC z0 HSQ q1' ⊢
        clear hw2
        go_wp2_with fail
        go_loopw [8] (fun kk wy => ∃ z : Nat, z ≤ n ∧ kk = .int .i64 z ∧ ∃ m, w2.drewN m = wy) (fun kk _ => n - (intOf kk).toNat)
        case atStart => exact ⟨0, by omega, rfl, 0, rfl⟩
        case round =>
          obtain ⟨z, hz, rfl, m2, rfl⟩ := hrel
          by_cases hlz : z < n
          · have v0 := HSQ.out z hlz
            by_cases hzc : z = ck
            · have t1 : ((z : Int) != (ck : Int)) = false := by simp [hzc]
              clear v0 hzc
              go_wp2_with fail
              go_roundw
              case rel => exact ⟨z + 1, by omega, by go_num, _, rfl⟩
              case measure => simp [intOf] <;> omega
            · have t1 : ((z : Int) != (ck : Int)) = true := by simp; omega
              rw [if_neg hzc] at v0
              clear hzc
              go_wp2_with fail
              go_roundw
              case rel => exact ⟨z + 1, by omega, by go_num, _, rfl⟩
              case measure => simp [intOf] <;> omega
          · have hC2 := hC.drewN m2
            replace q1' : (w2.drewN m2).cell? ⟨w.heap.size, 1, none⟩ = some (.slice (some ⟨bt', ot', none⟩) n c') := q1'
            have ha := (hC2.k.cell (p := ⟨bt', ot' + ck, none⟩) hbt).trans (HCT.out ck hcl)
            have hb := (hC2.k.cell (p := ⟨bt', ot' + k, none⟩) hbt).trans (HCT.out k hlt)
            have e2 := HCJ.out.t k hlt
            rw [HCK.out] at e2
            replace e2 : gi ts ck = gi ts k := e2
            rw [e2] at ha
            obtain ⟨tv, htv⟩ : ∃ tv, gi ts k = tv := ⟨_, rfl⟩
            rw [htv] at ha hb
            have hhas := HCJ.out.has hlt
            rw [HCK.out] at hhas
            obtain ⟨Ao, co, ev, hSo⟩ := hC2.o.sl (cjL_ok HCJ.out.lt hn (by omega : k ≤ n))
            have HHS := hide (fun wd (h : Dr (w2.drewN m2) wd) => (by
              obtain ⟨dm, rfl⟩ := h
              have := l01Has_any ((w2.drewN m2).drewN dm) _ _ _ _ _ (ck : Int) (hSo.drewN dm) (by rw [cjL_len]; omega)
              rw [hhas] at this
              rw [← ev] at this
              exact this : Calls Try.prog 70 #[vv, .int .i64 ck] wd (Qt wd (.bool false))))
            obtain ⟨w3, hw3⟩ : ∃ w3, w2.drewN m2 = w3 := ⟨_, rfl⟩
            rw [hw3] at hC2 q1' ha hb HHS ⊢
            have t1 : decide ((ck : Int) < 0) = false := decide_eq_false (by omega)
            clear hw3 hhas hSo ev e2 htv HSQ hC z0 z2
            go_wp2_with fail
            refine wp_region_dr [0, 1, 2, 3, 4, 5, 6, 7, 8, 9, 10, 11, 12, 13, 14, 15, 16, 17, 18, 19] 20 w3 (by kernel_rfl) (by kernel_rfl) (by kernel_rfl) (fun _ _ _ _ _ h => h) (Dr.refl _) (fun wd hDr => ?_)
            repeat (first | (apply ord_tk rfl (by rfl) (by rfl) (by rfl); (focus (rintro w ⟨dm, rfl⟩; go_simp; (try with_reducible rfl))); (try simp only [Act.put, List.setIfInBounds_toArray, List.set_cons_zero, List.set_cons_succ])) | (apply ord_skip rfl (by rfl) (by rfl) (fun _ => hDr); (try simp only [Act.put, List.setIfInBounds_toArray, List.set_cons_zero, List.set_cons_succ])))
            refine ord_do rfl (by rfl) (by rfl) (fun K hK => ?_)
            go_simp
            refine (HHS.out _ hDr).mono ?_
            rintro e wd' ⟨rfl, dm, hwd⟩
            replace hDr := hDr.step hwd
            clear hwd
            refine hK.out _ _ (fun _ => hDr) ?_
            (try simp only [Act.put, List.setIfInBounds_toArray, List.set_cons_zero, List.set_cons_succ])
            clear hK K
            repeat (first | (apply ord_tk rfl (by rfl) (by rfl) (by rfl); (focus (rintro w ⟨dm, rfl⟩; go_simp; (try with_reducible rfl))); (try simp only [Act.put, List.setIfInBounds_toArray, List.set_cons_zero, List.set_cons_succ])) | (apply ord_skip rfl (by rfl) (by rfl) (fun _ => hDr); (try simp only [Act.put, List.setIfInBounds_toArray, List.set_cons_zero, List.set_cons_succ])))
            refine ord_nil ?_
            obtain ⟨dm, rfl⟩ := hDr
            have hC3 := hC2.drewN dm
            obtain ⟨w4, hw4⟩ : ∃ w4, w3.drewN dm = w4 := ⟨_, rfl⟩
            rw [hw4] at hC3 ⊢
            clear hw4 hC2 ha hb q1' HHS
            have hs4 := hC3.k.size
            have hO3 := hC3.o
            go_wp2_with (at_builtin; refine list_push _ rfl _ _ rfl W.heap.size _ _ rfl (hO3.alloc _) (ck : Int) w4.heap.size _ rfl (Blk.new _ _ _) (by rw [cjL_len]; omega) (by simp; omega) (by simp) ?_; intro g9 cap w6 hP)
            have hC4 := hC3.push hP
            rw [← HCK.out, cjL_succ, cjL_len] at hC4
            go_roundw
            case rel => exact ⟨k + 1, _, by omega, by go_num, rfl, by (try rw [cjL_len]); exact hC4⟩
            case measure => simp [intOf] <;> omega
      · obtain rfl : k = n := by omega
        obtain ⟨g9, cap, ev, -, -, hcap⟩ : ∃ g9 cap, vv = .slice (some ⟨g9, 0, none⟩) (cjL cf k).length cap ∧ W.heap.size ≤ g9 ∧ g9 < wr.heap.size ∧ (cjL cf k).length ≤ cap := by
          rcases hC.o.form with ⟨_, h9⟩ | h9
          · have := cjL_len cf k; rw [h9] at this; simp at this; omega
          · obtain ⟨g9, cap, e1, e2, e3, e4⟩ := h9; exact ⟨g9, cap, e1, e2, e3, e4⟩
        subst ev
        have hO := hC.o
        rw [cjL_len] at hO ⊢
        have cc := hO.cell (cjL_len cf k).symm hp
        rw [cjL_gi hp, HCJ.out.zero] at cc
        rw [cjL_len] at hcap
        have hB := hC.k
        go_wp2_with fail
        go_ret
        exact ⟨_, rfl, hO.less hbW.size, hbW.trans (hB.mono hbW.size)⟩
end Go.Proofs.Ytlhfjfpgoaiijaa
