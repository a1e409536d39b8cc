
/- The laws on two metrics, out of the contracts of both sides. -/
import Derived.Test.YtmnljlefjafcdaaLO
import Derived.Test.YtmnljlefjafcdaaOpM
import Derived.Test.YtmnljlefjafcdaaOt
import Derived.WalkLawsBesides
import Derived.Deep.DeepCutAuto
namespace Go.Proofs.Ytmnljlefjafcdaa
open Go Go.RowKit
set_option linter.unusedSimpArgs false
set_option linter.unusedVariables false
set_option maxRecDepth 100000 in
set_option maxHeartbeats 16000000 in
theorem law_Sum_core {w : World} (A : Option Addr) (n c : Nat) (os : List Int) (z : Int) (A' : Option Addr) (n' c' : Nat) (vs : List Int) (h0 : SlIn w A n c os) (h1 : SlIn w A' n' c' vs) (hz : i64ok z)
    (E : Option Addr) (k d : Nat) (ps : List Int) (y : Int) (E' : Option Addr) (k' d' : Nat) (us : List Int) (i0 : SlIn w E k d ps) (i1 : SlIn w E' k' d' us) (hy : i64ok y) (ro rv : List Int) (rq code : Int) (hsp : Hid (∀ (W : World) (A : Option Addr) (n c : Nat) (A' : Option Addr) (n' c' : Nat) (E : Option Addr) (k d : Nat) (E' : Option Addr) (k' d' : Nat), Sl W W.heap.size A n c os → Sl W W.heap.size A' n' c' vs → Sl W W.heap.size E k d ps → Sl W W.heap.size E' k' d' us → n ≤ 1048576 → n' ≤ 1048576 → k ≤ 1048576 → k' ≤ 1048576 → Calls Try.prog 32 #[.agg #[.slice A n c, .int .i64 z, .slice A' n' c'], .agg #[.slice E k d, .int .i64 y, .slice E' k' d']] W (MkM W ro rq rv code))) (him : Hid (∀ (W : World) (A : Option Addr) (n c : Nat) (A' : Option Addr) (n' c' : Nat) (E : Option Addr) (k d : Nat) (E' : Option Addr) (k' d' : Nat), Sl W W.heap.size A n c os → Sl W W.heap.size A' n' c' vs → Sl W W.heap.size E k d ps → Sl W W.heap.size E' k' d' us → n ≤ 1048576 → n' ≤ 1048576 → k ≤ 1048576 → k' ≤ 1048576 → Calls Try.prog 33 #[.agg #[.slice A n c, .int .i64 z, .slice A' n' c'], .agg #[.slice E k d, .int .i64 y, .slice E' k' d']] W (MkM W ro rq rv code))) (hr1 : Hid (∀ x ∈ ro, i64ok x)) (hr2 : Hid (∀ x ∈ rv, i64ok x)) (hl1 : Hid (ro.length ≤ 1048576)) (hl2 : Hid (rv.length ≤ 1048576)) :
    Calls Try.prog 7 #[.agg #[.slice A n c, .int .i64 z, .slice A' n' c'], .agg #[.slice E k d, .int .i64 y, .slice E' k' d']] w (Re w (.bool true)) := by
  obtain ⟨h, hnm⟩ := h0
  obtain ⟨h', hnm'⟩ := h1
  obtain ⟨j, jnm⟩ := i0
  obtain ⟨j', jnm'⟩ := i1
  obtain rfl := h.len
  obtain rfl := h'.len
  obtain rfl := j.len
  obtain rfl := j'.len
  have hsz := fun W => szMetric_any W A A' os.length c vs.length c' z 1048576 (by omega) (by omega) hnm hnm'
  obtain ⟨l, hl⟩ : ∃ l, szM 1048576 os.length vs.length = l := ⟨_, rfl⟩
  have hp := szM_pos (l := 1048576) (n := os.length) (m := vs.length)
  rw [hl] at hsz hp
  clear hl
  by_cases hneg : l < 0
  case pos =>
    clear hp
    go_enter Try.func7, Try.ntmps7
    go_wp2_with fail
    refine (hsz _).mono ?_
    rintro e w' ⟨rfl, hb⟩
    go_wp2
    go_ret
    exact ⟨rfl, Below.trans (by repeat (first | assumption | exact Below.refl _ _ | apply below_drewN | apply Below.drew | apply Below.alloc | apply Below.setCell | omega | (focus (simp; done)) | (focus (simp; omega)))) (hb.mono (by simp; omega))⟩
  have hp := hp (by omega)
  have hn : os.length ≤ 1048576 := by omega
  have hn' : vs.length ≤ 1048576 := by omega
  have hPos : 0 ≤ l := by omega
  have jsz := fun W => szMetric_any W E E' ps.length d us.length d' y l hPos (by omega) jnm jnm'
  obtain ⟨l2, hl2⟩ : ∃ l2, szM l ps.length us.length = l2 := ⟨_, rfl⟩
  have jp := szM_pos (l := l) (n := ps.length) (m := us.length)
  rw [hl2] at jsz jp
  clear hl2
  by_cases jneg : l2 < 0
  case pos =>
    clear hp jp
    go_enter Try.func7, Try.ntmps7
    go_wp2_with fail
    obtain ⟨W, hW⟩ : ∃ W, (w.alloc (.cells #[.slice A os.length c, .int .i64 z, .slice A' vs.length c'] 24)).alloc (.cells #[.slice E ps.length d, .int .i64 y, .slice E' us.length d'] 24) = W := ⟨_, rfl⟩
    have hbW : Below w.heap.size w W := by rw [← hW]; exact (by repeat (first | assumption | exact Below.refl _ _ | apply below_drewN | apply Below.drew | apply Below.alloc | apply Below.setCell | omega | (focus (simp; done)) | (focus (simp; omega))))
    have hsW := hide (show W.heap.size = w.heap.size + 2 by rw [← hW]; simp)
    have hszW : w.heap.size < W.heap.size := by rw [hsW.out]; omega
    have hszN : w.heap.size + 1 < W.heap.size := by rw [hsW.out]; omega
    have bW : Blk W w.heap.size 24 #[.slice A os.length c, .int .i64 z, .slice A' vs.length c'] := by rw [← hW]; exact (Blk.new _ _ _).alloc _
    have bN : Blk W (w.heap.size + 1) 24 #[.slice E ps.length d, .int .i64 y, .slice E' us.length d'] := by rw [← hW]; exact Blk.new' _ _ _ _ (by simp)
    have q0 := bW.cell 0
    have q1 := bW.cell 1
    have q2 := bW.cell 2
    have p0 := bN.cell 0
    have p1 := bN.cell 1
    have p2 := bN.cell 2
    rw [hW]
    clear hW
    have hs := h.below hbW
    have hs' := h'.below hbW
    have js := j.below hbW
    have js' := j'.below hbW
    have hsl : ∀ {wd}, Below W.heap.size W wd → Sl wd w.heap.size A os.length c os := fun q => hs.below (q.mono (Nat.le_of_lt hszW))
    have hsl' : ∀ {wd}, Below W.heap.size W wd → Sl wd w.heap.size A' vs.length c' vs := fun q => hs'.below (q.mono (Nat.le_of_lt hszW))
    have jsl : ∀ {wd}, Below W.heap.size W wd → Sl wd w.heap.size E ps.length d ps := fun q => js.below (q.mono (Nat.le_of_lt hszW))
    have jsl' : ∀ {wd}, Below W.heap.size W wd → Sl wd w.heap.size E' us.length d' us := fun q => js'.below (q.mono (Nat.le_of_lt hszW))
    refine (hsz _).mono ?_
    rintro e w1 ⟨rfl, hb1⟩
    replace hb1 : Below W.heap.size W w1 := hb1
    have r3 := (hb1.cell (p := ⟨w.heap.size + 1, 0, none⟩) hszN).trans p0
    have r4 := (hb1.cell (p := ⟨w.heap.size + 1, 1, none⟩) hszN).trans p1
    have r5 := (hb1.cell (p := ⟨w.heap.size + 1, 2, none⟩) hszN).trans p2
    go_wp2_with fail
    refine (jsz _).mono ?_
    rintro e w2 ⟨rfl, hb2⟩
    go_wp2
    go_ret
    exact ⟨rfl, hbW.trans ((hb1.trans (hb2.mono hb1.size)).mono (Nat.le_of_lt hszW))⟩
  have jp := jp (by omega)
  have jn : ps.length ≤ 1048576 := by omega
  have jn' : us.length ≤ 1048576 := by omega
  have jPos : 0 ≤ l2 := by omega
  clear hp jp
  go_enter Try.func7, Try.ntmps7
  go_wp2_with fail
  obtain ⟨W, hW⟩ : ∃ W, (w.alloc (.cells #[.slice A os.length c, .int .i64 z, .slice A' vs.length c'] 24)).alloc (.cells #[.slice E ps.length d, .int .i64 y, .slice E' us.length d'] 24) = W := ⟨_, rfl⟩
  have hbW : Below w.heap.size w W := by rw [← hW]; exact (by repeat (first | assumption | exact Below.refl _ _ | apply below_drewN | apply Below.drew | apply Below.alloc | apply Below.setCell | omega | (focus (simp; done)) | (focus (simp; omega))))
  have hsW := hide (show W.heap.size = w.heap.size + 2 by rw [← hW]; simp)
  have hszW : w.heap.size < W.heap.size := by rw [hsW.out]; omega
  have hszN : w.heap.size + 1 < W.heap.size := by rw [hsW.out]; omega
  have bW : Blk W w.heap.size 24 #[.slice A os.length c, .int .i64 z, .slice A' vs.length c'] := by rw [← hW]; exact (Blk.new _ _ _).alloc _
  have bN : Blk W (w.heap.size + 1) 24 #[.slice E ps.length d, .int .i64 y, .slice E' us.length d'] := by rw [← hW]; exact Blk.new' _ _ _ _ (by simp)
  have q0 := bW.cell 0
  have q1 := bW.cell 1
  have q2 := bW.cell 2
  have p0 := bN.cell 0
  have p1 := bN.cell 1
  have p2 := bN.cell 2
  rw [hW]
  clear hW
  have hs := h.below hbW
  have hs' := h'.below hbW
  have js := j.below hbW
  have js' := j'.below hbW
  have hsl : ∀ {wd}, Below W.heap.size W wd → Sl wd w.heap.size A os.length c os := fun q => hs.below (q.mono (Nat.le_of_lt hszW))
  have hsl' : ∀ {wd}, Below W.heap.size W wd → Sl wd w.heap.size A' vs.length c' vs := fun q => hs'.below (q.mono (Nat.le_of_lt hszW))
  have jsl : ∀ {wd}, Below W.heap.size W wd → Sl wd w.heap.size E ps.length d ps := fun q => js.below (q.mono (Nat.le_of_lt hszW))
  have jsl' : ∀ {wd}, Below W.heap.size W wd → Sl wd w.heap.size E' us.length d' us := fun q => js'.below (q.mono (Nat.le_of_lt hszW))
  refine (hsz _).mono ?_
  rintro e w1 ⟨rfl, hb1⟩
  replace hb1 : Below W.heap.size W w1 := hb1
  have r3 := (hb1.cell (p := ⟨w.heap.size + 1, 0, none⟩) hszN).trans p0
  have r4 := (hb1.cell (p := ⟨w.heap.size + 1, 1, none⟩) hszN).trans p1
  have r5 := (hb1.cell (p := ⟨w.heap.size + 1, 2, none⟩) hszN).trans p2
  go_wp2_with fail
  clear r3 r4 r5
  refine (jsz _).mono ?_
  rintro e w2 ⟨rfl, hb2⟩
  have k2 := hb1.trans (hb2.mono hb1.size)
  clear hb1 hb2
  go_upto_region 8 with fail
  go_cut [6, 7] (fun s6 s7 wx => ∃ Y B1 d1 B2 d2, s6 = .pointer (some ⟨Y, 0, none⟩) ∧ s7 = .int .i64 code ∧ Blk wx Y 28 #[.slice B1 ro.length d1, .int .i64 rq, .slice B2 rv.length d2] ∧ Ow wx W.heap.size (.slice B1 ro.length d1) ro ∧ Ow wx W.heap.size (.slice B2 rv.length d2) rv ∧ Below W.heap.size W wx)
  case first =>
    refine wp_region_bt (.one 0 (.one 2 (.two 1 (.two 3 (.two 4 (.one 5 (.one 6 (.one 7 (.one 8 (.one 9 (.one 10 .nil)))))) 8 (.one 4 (.one 5 (.one 6 (.one 7 (.one 9 (.one 10 .nil))))))) 8 (.one 3 (.one 4 (.one 5 (.one 6 (.one 7 (.one 9 (.one 10 .nil)))))))) 8 (.one 1 (.one 3 (.one 4 (.one 5 (.one 6 (.one 7 (.one 9 (.one 10 .nil))))))))))) 10 W.heap.size W (by kernel_rfl) (by kernel_rfl) (by kernel_rfl) (fun _ _ _ _ _ h => h) k2 (fun wd hBe => ?_)
    repeat (first | (apply ot_tk rfl (by rfl) (by rfl) (by rfl); (focus (intro wx hSw; have r0 := (hSw.cell (p := ⟨w.heap.size, 0, none⟩) hszW).trans q0; have r1 := (hSw.cell (p := ⟨w.heap.size, 1, none⟩) hszW).trans q1; have r2 := (hSw.cell (p := ⟨w.heap.size, 2, none⟩) hszW).trans q2; have r3 := (hSw.cell (p := ⟨w.heap.size + 1, 0, none⟩) hszN).trans p0; have r4 := (hSw.cell (p := ⟨w.heap.size + 1, 1, none⟩) hszN).trans p1; have r5 := (hSw.cell (p := ⟨w.heap.size + 1, 2, none⟩) hszN).trans p2; go_simp; (try with_reducible rfl))); (try simp only [Act.put, List.setIfInBounds_toArray, List.set_cons_zero, List.set_cons_succ])) | (apply ot_skip rfl (by rfl) (by rfl) (fun _ => hBe); (try simp only [Act.put, List.setIfInBounds_toArray, List.set_cons_zero, List.set_cons_succ])))
    refine ot_two ?_ ?_
    · skip
      (refine ot_do rfl (by rfl) (by rfl) (fun K hK => ?_); go_simp; refine (toMetric_any _ w.heap.size _ _ _ _ _ _ _ _ _ (hsl hBe) (hsl' hBe) (by have := hBe.size; omega) hn hn').mono ?_; rintro e wm ⟨C1, e1, C2, e2, rfl, t1, t2, hb2⟩; (try replace bO := bO.all hb2); replace hBe := hBe.trans (hb2.mono hBe.size); clear hb2; refine hK.out _ _ (fun _ => hBe) ?_; (try simp only [Act.put, List.setIfInBounds_toArray, List.set_cons_zero, List.set_cons_succ]); clear hK K)
      repeat (first | (apply ot_tk rfl (by rfl) (by rfl) (by rfl); (focus (intro wx hSw; have r0 := (hSw.cell (p := ⟨w.heap.size, 0, none⟩) hszW).trans q0; have r1 := (hSw.cell (p := ⟨w.heap.size, 1, none⟩) hszW).trans q1; have r2 := (hSw.cell (p := ⟨w.heap.size, 2, none⟩) hszW).trans q2; have r3 := (hSw.cell (p := ⟨w.heap.size + 1, 0, none⟩) hszN).trans p0; have r4 := (hSw.cell (p := ⟨w.heap.size + 1, 1, none⟩) hszN).trans p1; have r5 := (hSw.cell (p := ⟨w.heap.size + 1, 2, none⟩) hszN).trans p2; go_simp; (try with_reducible rfl))); (try simp only [Act.put, List.setIfInBounds_toArray, List.set_cons_zero, List.set_cons_succ])) | (apply ot_skip rfl (by rfl) (by rfl) (fun _ => hBe); (try simp only [Act.put, List.setIfInBounds_toArray, List.set_cons_zero, List.set_cons_succ])))
      refine ot_two ?_ ?_
      · skip
        (refine ot_do rfl (by rfl) (by rfl) (fun K hK => ?_); go_simp; refine (toMetric_any _ w.heap.size _ _ _ _ _ _ _ _ _ (jsl hBe) (jsl' hBe) (by have := hBe.size; omega) jn jn').mono ?_; rintro e wn ⟨C3, e3, C4, e4, rfl, t3, t4, hb2⟩; (try replace bO := bO.all hb2); replace t1 := (t1.below hb2).more hb2.size; replace t2 := (t2.below hb2).more hb2.size; replace hBe := hBe.trans (hb2.mono hBe.size); clear hb2; refine hK.out _ _ (fun _ => hBe) ?_; (try simp only [Act.put, List.setIfInBounds_toArray, List.set_cons_zero, List.set_cons_succ]); clear hK K)
        repeat (first | (apply ot_tk rfl (by rfl) (by rfl) (by rfl); (focus (intro wx hSw; have r0 := (hSw.cell (p := ⟨w.heap.size, 0, none⟩) hszW).trans q0; have r1 := (hSw.cell (p := ⟨w.heap.size, 1, none⟩) hszW).trans q1; have r2 := (hSw.cell (p := ⟨w.heap.size, 2, none⟩) hszW).trans q2; have r3 := (hSw.cell (p := ⟨w.heap.size + 1, 0, none⟩) hszN).trans p0; have r4 := (hSw.cell (p := ⟨w.heap.size + 1, 1, none⟩) hszN).trans p1; have r5 := (hSw.cell (p := ⟨w.heap.size + 1, 2, none⟩) hszN).trans p2; go_simp; (try with_reducible rfl))); (try simp only [Act.put, List.setIfInBounds_toArray, List.set_cons_zero, List.set_cons_succ])) | (apply ot_skip rfl (by rfl) (by rfl) (fun _ => hBe); (try simp only [Act.put, List.setIfInBounds_toArray, List.set_cons_zero, List.set_cons_succ])))
        refine ot_two ?_ ?_
        · skip
          (refine ot_do rfl (by rfl) (by rfl) (fun K hK => ?_); go_simp; refine (hsp.out _ _ _ _ _ _ _ _ _ _ _ _ _ t1 t2 t3 t4 hn hn' jn jn').mono ?_; rintro e wf ⟨a1, a2, rfl, ha1, ha2, hap, hb2⟩; replace ha1 := ha1.less (show W.heap.size ≤ _ from hBe.size); replace ha2 := ha2.less (show W.heap.size ≤ _ from hBe.size); (try replace bO := bO.all hb2); replace hBe := hBe.trans (hb2.mono hBe.size); clear hb2; obtain ⟨Aw1, cw1, rfl⟩ := ha1.val; obtain ⟨Aw2, cw2, rfl⟩ := ha2.val; clear t1 t2 t3 t4 hap; refine hK.out _ _ (fun _ => hBe) ?_; (try simp only [Act.put, List.setIfInBounds_toArray, List.set_cons_zero, List.set_cons_succ]); clear hK K)
          repeat (first | (apply ot_tk rfl (by rfl) (by rfl) (by rfl); (focus (intro wx hSw; have r0 := (hSw.cell (p := ⟨w.heap.size, 0, none⟩) hszW).trans q0; have r1 := (hSw.cell (p := ⟨w.heap.size, 1, none⟩) hszW).trans q1; have r2 := (hSw.cell (p := ⟨w.heap.size, 2, none⟩) hszW).trans q2; have r3 := (hSw.cell (p := ⟨w.heap.size + 1, 0, none⟩) hszN).trans p0; have r4 := (hSw.cell (p := ⟨w.heap.size + 1, 1, none⟩) hszN).trans p1; have r5 := (hSw.cell (p := ⟨w.heap.size + 1, 2, none⟩) hszN).trans p2; go_simp; (try with_reducible rfl))); (try simp only [Act.put, List.setIfInBounds_toArray, List.set_cons_zero, List.set_cons_succ])) | (apply ot_skip rfl (by rfl) (by rfl) (fun _ => hBe); (try simp only [Act.put, List.setIfInBounds_toArray, List.set_cons_zero, List.set_cons_succ])))
          (refine ot_do rfl (by rfl) (by rfl) (fun K hK => ?_); go_simp; obtain ⟨wa, g, hg, hwa, hBa, hsub, bO, hgB⟩ := be_alloc hBe 28 #[.slice none 0 0, .int .i64 0, .slice none 0 0]; rw [hwa, hg]; clear hwa hg; (try replace t1 := (t1.below hsub).more hsub.size); (try replace t2 := (t2.below hsub).more hsub.size); (try replace t3 := (t3.below hsub).more hsub.size); (try replace t4 := (t4.below hsub).more hsub.size); (try replace ha1 := ha1.below hsub); (try replace ha2 := ha2.below hsub); clear hBe hsub; have hBe := hBa; clear hBa; refine hK.out _ _ (fun _ => hBe) ?_; (try simp only [Act.put, List.setIfInBounds_toArray, List.set_cons_zero, List.set_cons_succ]); clear hK K)
          repeat (first | (apply ot_tk rfl (by rfl) (by rfl) (by rfl); (focus (intro wx hSw; have r0 := (hSw.cell (p := ⟨w.heap.size, 0, none⟩) hszW).trans q0; have r1 := (hSw.cell (p := ⟨w.heap.size, 1, none⟩) hszW).trans q1; have r2 := (hSw.cell (p := ⟨w.heap.size, 2, none⟩) hszW).trans q2; have r3 := (hSw.cell (p := ⟨w.heap.size + 1, 0, none⟩) hszN).trans p0; have r4 := (hSw.cell (p := ⟨w.heap.size + 1, 1, none⟩) hszN).trans p1; have r5 := (hSw.cell (p := ⟨w.heap.size + 1, 2, none⟩) hszN).trans p2; go_simp; (try with_reducible rfl))); (try simp only [Act.put, List.setIfInBounds_toArray, List.set_cons_zero, List.set_cons_succ])) | (apply ot_skip rfl (by rfl) (by rfl) (fun _ => hBe); (try simp only [Act.put, List.setIfInBounds_toArray, List.set_cons_zero, List.set_cons_succ])))
          have r0 := bO.cell 0
          have r1 := bO.cell 1
          have r2 := bO.cell 2
          have f0 := bO.frozen 0
          have f1 := bO.frozen 1
          have f2 := bO.frozen 2
          have hbY := put3_blk (x := .slice Aw1 ro.length cw1) (y := .int .i64 rq) (z := .slice Aw2 rv.length cw2) bO
          have hBY : Below W.heap.size W (put3 wa g (.slice Aw1 ro.length cw1) (.int .i64 rq) (.slice Aw2 rv.length cw2)) := put3_below hBe hgB
          have hy1 := put3_own (x := .slice Aw1 ro.length cw1) (y := .int .i64 rq) (z := .slice Aw2 rv.length cw2) bO (by decide) ha1
          have hy2 := put3_own (x := .slice Aw1 ro.length cw1) (y := .int .i64 rq) (z := .slice Aw2 rv.length cw2) bO (by decide) ha2
          refine ot_do rfl (by rfl) (by rfl) (fun K hK => ?_)
          go_simp
          refine hK.out _ _ (fun _ => hBY) ?_
          (try simp only [Act.put, List.setIfInBounds_toArray, List.set_cons_zero, List.set_cons_succ])
          clear hK K
          clear r0 r1 r2 f0 f1 f2
          repeat (first | (apply ot_tk rfl (by rfl) (by rfl) (by rfl); (focus (intro wx hSw; have r0 := (hSw.cell (p := ⟨w.heap.size, 0, none⟩) hszW).trans q0; have r1 := (hSw.cell (p := ⟨w.heap.size, 1, none⟩) hszW).trans q1; have r2 := (hSw.cell (p := ⟨w.heap.size, 2, none⟩) hszW).trans q2; have r3 := (hSw.cell (p := ⟨w.heap.size + 1, 0, none⟩) hszN).trans p0; have r4 := (hSw.cell (p := ⟨w.heap.size + 1, 1, none⟩) hszN).trans p1; have r5 := (hSw.cell (p := ⟨w.heap.size + 1, 2, none⟩) hszN).trans p2; go_simp; (try with_reducible rfl))); (try simp only [Act.put, List.setIfInBounds_toArray, List.set_cons_zero, List.set_cons_succ])) | (apply ot_skip rfl (by rfl) (by rfl) (fun _ => hBe); (try simp only [Act.put, List.setIfInBounds_toArray, List.set_cons_zero, List.set_cons_succ])))
          refine ot_do rfl (by rfl) (by rfl) (fun K hK => ?_)
          go_simp
          refine hK.out _ _ (fun h => absurd h (by omega)) ?_
          (try simp only [Act.put, List.setIfInBounds_toArray, List.set_cons_zero, List.set_cons_succ])
          clear hK K
          refine ot_nil ?_
          go_wp2_with fail
          go_meet
          exact ⟨g, Aw1, cw1, Aw2, cw2, rfl, rfl, hbY, hy1, hy2, hBY⟩
        · skip
          (refine ot_do rfl (by rfl) (by rfl) (fun K hK => ?_); go_simp; obtain ⟨wa, g, hg, hwa, hBa, hsub, bO, hgB⟩ := be_alloc hBe 28 #[.slice none 0 0, .int .i64 0, .slice none 0 0]; rw [hwa, hg]; clear hwa hg; (try replace t1 := (t1.below hsub).more hsub.size); (try replace t2 := (t2.below hsub).more hsub.size); (try replace t3 := (t3.below hsub).more hsub.size); (try replace t4 := (t4.below hsub).more hsub.size); (try replace ha1 := ha1.below hsub); (try replace ha2 := ha2.below hsub); clear hBe hsub; have hBe := hBa; clear hBa; refine hK.out _ _ (fun _ => hBe) ?_; (try simp only [Act.put, List.setIfInBounds_toArray, List.set_cons_zero, List.set_cons_succ]); clear hK K)
          repeat (first | (apply ot_tk rfl (by rfl) (by rfl) (by rfl); (focus (intro wx hSw; have r0 := (hSw.cell (p := ⟨w.heap.size, 0, none⟩) hszW).trans q0; have r1 := (hSw.cell (p := ⟨w.heap.size, 1, none⟩) hszW).trans q1; have r2 := (hSw.cell (p := ⟨w.heap.size, 2, none⟩) hszW).trans q2; have r3 := (hSw.cell (p := ⟨w.heap.size + 1, 0, none⟩) hszN).trans p0; have r4 := (hSw.cell (p := ⟨w.heap.size + 1, 1, none⟩) hszN).trans p1; have r5 := (hSw.cell (p := ⟨w.heap.size + 1, 2, none⟩) hszN).trans p2; go_simp; (try with_reducible rfl))); (try simp only [Act.put, List.setIfInBounds_toArray, List.set_cons_zero, List.set_cons_succ])) | (apply ot_skip rfl (by rfl) (by rfl) (fun _ => hBe); (try simp only [Act.put, List.setIfInBounds_toArray, List.set_cons_zero, List.set_cons_succ])))
          (refine ot_do rfl (by rfl) (by rfl) (fun K hK => ?_); go_simp; refine (hsp.out _ _ _ _ _ _ _ _ _ _ _ _ _ t1 t2 t3 t4 hn hn' jn jn').mono ?_; rintro e wf ⟨a1, a2, rfl, ha1, ha2, hap, hb2⟩; replace ha1 := ha1.less (show W.heap.size ≤ _ from hBe.size); replace ha2 := ha2.less (show W.heap.size ≤ _ from hBe.size); (try replace bO := bO.all hb2); replace hBe := hBe.trans (hb2.mono hBe.size); clear hb2; obtain ⟨Aw1, cw1, rfl⟩ := ha1.val; obtain ⟨Aw2, cw2, rfl⟩ := ha2.val; clear t1 t2 t3 t4 hap; refine hK.out _ _ (fun _ => hBe) ?_; (try simp only [Act.put, List.setIfInBounds_toArray, List.set_cons_zero, List.set_cons_succ]); clear hK K)
          repeat (first | (apply ot_tk rfl (by rfl) (by rfl) (by rfl); (focus (intro wx hSw; have r0 := (hSw.cell (p := ⟨w.heap.size, 0, none⟩) hszW).trans q0; have r1 := (hSw.cell (p := ⟨w.heap.size, 1, none⟩) hszW).trans q1; have r2 := (hSw.cell (p := ⟨w.heap.size, 2, none⟩) hszW).trans q2; have r3 := (hSw.cell (p := ⟨w.heap.size + 1, 0, none⟩) hszN).trans p0; have r4 := (hSw.cell (p := ⟨w.heap.size + 1, 1, none⟩) hszN).trans p1; have r5 := (hSw.cell (p := ⟨w.heap.size + 1, 2, none⟩) hszN).trans p2; go_simp; (try with_reducible rfl))); (try simp only [Act.put, List.setIfInBounds_toArray, List.set_cons_zero, List.set_cons_succ])) | (apply ot_skip rfl (by rfl) (by rfl) (fun _ => hBe); (try simp only [Act.put, List.setIfInBounds_toArray, List.set_cons_zero, List.set_cons_succ])))
          have r0 := bO.cell 0
          have r1 := bO.cell 1
          have r2 := bO.cell 2
          have f0 := bO.frozen 0
          have f1 := bO.frozen 1
          have f2 := bO.frozen 2
          have hbY := put3_blk (x := .slice Aw1 ro.length cw1) (y := .int .i64 rq) (z := .slice Aw2 rv.length cw2) bO
          have hBY : Below W.heap.size W (put3 wf g (.slice Aw1 ro.length cw1) (.int .i64 rq) (.slice Aw2 rv.length cw2)) := put3_below hBe hgB
          have hy1 := put3_own (x := .slice Aw1 ro.length cw1) (y := .int .i64 rq) (z := .slice Aw2 rv.length cw2) bO (by decide) ha1
          have hy2 := put3_own (x := .slice Aw1 ro.length cw1) (y := .int .i64 rq) (z := .slice Aw2 rv.length cw2) bO (by decide) ha2
          refine ot_do rfl (by rfl) (by rfl) (fun K hK => ?_)
          go_simp
          refine hK.out _ _ (fun _ => hBY) ?_
          (try simp only [Act.put, List.setIfInBounds_toArray, List.set_cons_zero, List.set_cons_succ])
          clear hK K
          clear r0 r1 r2 f0 f1 f2
          repeat (first | (apply ot_tk rfl (by rfl) (by rfl) (by rfl); (focus (intro wx hSw; have r0 := (hSw.cell (p := ⟨w.heap.size, 0, none⟩) hszW).trans q0; have r1 := (hSw.cell (p := ⟨w.heap.size, 1, none⟩) hszW).trans q1; have r2 := (hSw.cell (p := ⟨w.heap.size, 2, none⟩) hszW).trans q2; have r3 := (hSw.cell (p := ⟨w.heap.size + 1, 0, none⟩) hszN).trans p0; have r4 := (hSw.cell (p := ⟨w.heap.size + 1, 1, none⟩) hszN).trans p1; have r5 := (hSw.cell (p := ⟨w.heap.size + 1, 2, none⟩) hszN).trans p2; go_simp; (try with_reducible rfl))); (try simp only [Act.put, List.setIfInBounds_toArray, List.set_cons_zero, List.set_cons_succ])) | (apply ot_skip rfl (by rfl) (by rfl) (fun _ => hBe); (try simp only [Act.put, List.setIfInBounds_toArray, List.set_cons_zero, List.set_cons_succ])))
          refine ot_do rfl (by rfl) (by rfl) (fun K hK => ?_)
          go_simp
          refine hK.out _ _ (fun h => absurd h (by omega)) ?_
          (try simp only [Act.put, List.setIfInBounds_toArray, List.set_cons_zero, List.set_cons_succ])
          clear hK K
          refine ot_nil ?_
          go_wp2_with fail
          go_meet
          exact ⟨g, Aw1, cw1, Aw2, cw2, rfl, rfl, hbY, hy1, hy2, hBY⟩
      · skip
        (refine ot_do rfl (by rfl) (by rfl) (fun K hK => ?_); go_simp; obtain ⟨wa, g, hg, hwa, hBa, hsub, bO, hgB⟩ := be_alloc hBe 28 #[.slice none 0 0, .int .i64 0, .slice none 0 0]; rw [hwa, hg]; clear hwa hg; (try replace t1 := (t1.below hsub).more hsub.size); (try replace t2 := (t2.below hsub).more hsub.size); (try replace t3 := (t3.below hsub).more hsub.size); (try replace t4 := (t4.below hsub).more hsub.size); (try replace ha1 := ha1.below hsub); (try replace ha2 := ha2.below hsub); clear hBe hsub; have hBe := hBa; clear hBa; refine hK.out _ _ (fun _ => hBe) ?_; (try simp only [Act.put, List.setIfInBounds_toArray, List.set_cons_zero, List.set_cons_succ]); clear hK K)
        repeat (first | (apply ot_tk rfl (by rfl) (by rfl) (by rfl); (focus (intro wx hSw; have r0 := (hSw.cell (p := ⟨w.heap.size, 0, none⟩) hszW).trans q0; have r1 := (hSw.cell (p := ⟨w.heap.size, 1, none⟩) hszW).trans q1; have r2 := (hSw.cell (p := ⟨w.heap.size, 2, none⟩) hszW).trans q2; have r3 := (hSw.cell (p := ⟨w.heap.size + 1, 0, none⟩) hszN).trans p0; have r4 := (hSw.cell (p := ⟨w.heap.size + 1, 1, none⟩) hszN).trans p1; have r5 := (hSw.cell (p := ⟨w.heap.size + 1, 2, none⟩) hszN).trans p2; go_simp; (try with_reducible rfl))); (try simp only [Act.put, List.setIfInBounds_toArray, List.set_cons_zero, List.set_cons_succ])) | (apply ot_skip rfl (by rfl) (by rfl) (fun _ => hBe); (try simp only [Act.put, List.setIfInBounds_toArray, List.set_cons_zero, List.set_cons_succ])))
        (refine ot_do rfl (by rfl) (by rfl) (fun K hK => ?_); go_simp; refine (toMetric_any _ w.heap.size _ _ _ _ _ _ _ _ _ (jsl hBe) (jsl' hBe) (by have := hBe.size; omega) jn jn').mono ?_; rintro e wn ⟨C3, e3, C4, e4, rfl, t3, t4, hb2⟩; (try replace bO := bO.all hb2); replace t1 := (t1.below hb2).more hb2.size; replace t2 := (t2.below hb2).more hb2.size; replace hBe := hBe.trans (hb2.mono hBe.size); clear hb2; refine hK.out _ _ (fun _ => hBe) ?_; (try simp only [Act.put, List.setIfInBounds_toArray, List.set_cons_zero, List.set_cons_succ]); clear hK K)
        repeat (first | (apply ot_tk rfl (by rfl) (by rfl) (by rfl); (focus (intro wx hSw; have r0 := (hSw.cell (p := ⟨w.heap.size, 0, none⟩) hszW).trans q0; have r1 := (hSw.cell (p := ⟨w.heap.size, 1, none⟩) hszW).trans q1; have r2 := (hSw.cell (p := ⟨w.heap.size, 2, none⟩) hszW).trans q2; have r3 := (hSw.cell (p := ⟨w.heap.size + 1, 0, none⟩) hszN).trans p0; have r4 := (hSw.cell (p := ⟨w.heap.size + 1, 1, none⟩) hszN).trans p1; have r5 := (hSw.cell (p := ⟨w.heap.size + 1, 2, none⟩) hszN).trans p2; go_simp; (try with_reducible rfl))); (try simp only [Act.put, List.setIfInBounds_toArray, List.set_cons_zero, List.set_cons_succ])) | (apply ot_skip rfl (by rfl) (by rfl) (fun _ => hBe); (try simp only [Act.put, List.setIfInBounds_toArray, List.set_cons_zero, List.set_cons_succ])))
        (refine ot_do rfl (by rfl) (by rfl) (fun K hK => ?_); go_simp; refine (hsp.out _ _ _ _ _ _ _ _ _ _ _ _ _ t1 t2 t3 t4 hn hn' jn jn').mono ?_; rintro e wf ⟨a1, a2, rfl, ha1, ha2, hap, hb2⟩; replace ha1 := ha1.less (show W.heap.size ≤ _ from hBe.size); replace ha2 := ha2.less (show W.heap.size ≤ _ from hBe.size); (try replace bO := bO.all hb2); replace hBe := hBe.trans (hb2.mono hBe.size); clear hb2; obtain ⟨Aw1, cw1, rfl⟩ := ha1.val; obtain ⟨Aw2, cw2, rfl⟩ := ha2.val; clear t1 t2 t3 t4 hap; refine hK.out _ _ (fun _ => hBe) ?_; (try simp only [Act.put, List.setIfInBounds_toArray, List.set_cons_zero, List.set_cons_succ]); clear hK K)
        repeat (first | (apply ot_tk rfl (by rfl) (by rfl) (by rfl); (focus (intro wx hSw; have r0 := (hSw.cell (p := ⟨w.heap.size, 0, none⟩) hszW).trans q0; have r1 := (hSw.cell (p := ⟨w.heap.size, 1, none⟩) hszW).trans q1; have r2 := (hSw.cell (p := ⟨w.heap.size, 2, none⟩) hszW).trans q2; have r3 := (hSw.cell (p := ⟨w.heap.size + 1, 0, none⟩) hszN).trans p0; have r4 := (hSw.cell (p := ⟨w.heap.size + 1, 1, none⟩) hszN).trans p1; have r5 := (hSw.cell (p := ⟨w.heap.size + 1, 2, none⟩) hszN).trans p2; go_simp; (try with_reducible rfl))); (try simp only [Act.put, List.setIfInBounds_toArray, List.set_cons_zero, List.set_cons_succ])) | (apply ot_skip rfl (by rfl) (by rfl) (fun _ => hBe); (try simp only [Act.put, List.setIfInBounds_toArray, List.set_cons_zero, List.set_cons_succ])))
        have r0 := bO.cell 0
        have r1 := bO.cell 1
        have r2 := bO.cell 2
        have f0 := bO.frozen 0
        have f1 := bO.frozen 1
        have f2 := bO.frozen 2
        have hbY := put3_blk (x := .slice Aw1 ro.length cw1) (y := .int .i64 rq) (z := .slice Aw2 rv.length cw2) bO
        have hBY : Below W.heap.size W (put3 wf g (.slice Aw1 ro.length cw1) (.int .i64 rq) (.slice Aw2 rv.length cw2)) := put3_below hBe hgB
        have hy1 := put3_own (x := .slice Aw1 ro.length cw1) (y := .int .i64 rq) (z := .slice Aw2 rv.length cw2) bO (by decide) ha1
        have hy2 := put3_own (x := .slice Aw1 ro.length cw1) (y := .int .i64 rq) (z := .slice Aw2 rv.length cw2) bO (by decide) ha2
        refine ot_do rfl (by rfl) (by rfl) (fun K hK => ?_)
        go_simp
        refine hK.out _ _ (fun _ => hBY) ?_
        (try simp only [Act.put, List.setIfInBounds_toArray, List.set_cons_zero, List.set_cons_succ])
        clear hK K
        clear r0 r1 r2 f0 f1 f2
        repeat (first | (apply ot_tk rfl (by rfl) (by rfl) (by rfl); (focus (intro wx hSw; have r0 := (hSw.cell (p := ⟨w.heap.size, 0, none⟩) hszW).trans q0; have r1 := (hSw.cell (p := ⟨w.heap.size, 1, none⟩) hszW).trans q1; have r2 := (hSw.cell (p := ⟨w.heap.size, 2, none⟩) hszW).trans q2; have r3 := (hSw.cell (p := ⟨w.heap.size + 1, 0, none⟩) hszN).trans p0; have r4 := (hSw.cell (p := ⟨w.heap.size + 1, 1, none⟩) hszN).trans p1; have r5 := (hSw.cell (p := ⟨w.heap.size + 1, 2, none⟩) hszN).trans p2; go_simp; (try with_reducible rfl))); (try simp only [Act.put, List.setIfInBounds_toArray, List.set_cons_zero, List.set_cons_succ])) | (apply ot_skip rfl (by rfl) (by rfl) (fun _ => hBe); (try simp only [Act.put, List.setIfInBounds_toArray, List.set_cons_zero, List.set_cons_succ])))
        refine ot_do rfl (by rfl) (by rfl) (fun K hK => ?_)
        go_simp
        refine hK.out _ _ (fun h => absurd h (by omega)) ?_
        (try simp only [Act.put, List.setIfInBounds_toArray, List.set_cons_zero, List.set_cons_succ])
        clear hK K
        refine ot_nil ?_
        go_wp2_with fail
        go_meet
        exact ⟨g, Aw1, cw1, Aw2, cw2, rfl, rfl, hbY, hy1, hy2, hBY⟩
    · skip
      (refine ot_do rfl (by rfl) (by rfl) (fun K hK => ?_); go_simp; obtain ⟨wa, g, hg, hwa, hBa, hsub, bO, hgB⟩ := be_alloc hBe 28 #[.slice none 0 0, .int .i64 0, .slice none 0 0]; rw [hwa, hg]; clear hwa hg; (try replace t1 := (t1.below hsub).more hsub.size); (try replace t2 := (t2.below hsub).more hsub.size); (try replace t3 := (t3.below hsub).more hsub.size); (try replace t4 := (t4.below hsub).more hsub.size); (try replace ha1 := ha1.below hsub); (try replace ha2 := ha2.below hsub); clear hBe hsub; have hBe := hBa; clear hBa; refine hK.out _ _ (fun _ => hBe) ?_; (try simp only [Act.put, List.setIfInBounds_toArray, List.set_cons_zero, List.set_cons_succ]); clear hK K)
      repeat (first | (apply ot_tk rfl (by rfl) (by rfl) (by rfl); (focus (intro wx hSw; have r0 := (hSw.cell (p := ⟨w.heap.size, 0, none⟩) hszW).trans q0; have r1 := (hSw.cell (p := ⟨w.heap.size, 1, none⟩) hszW).trans q1; have r2 := (hSw.cell (p := ⟨w.heap.size, 2, none⟩) hszW).trans q2; have r3 := (hSw.cell (p := ⟨w.heap.size + 1, 0, none⟩) hszN).trans p0; have r4 := (hSw.cell (p := ⟨w.heap.size + 1, 1, none⟩) hszN).trans p1; have r5 := (hSw.cell (p := ⟨w.heap.size + 1, 2, none⟩) hszN).trans p2; go_simp; (try with_reducible rfl))); (try simp only [Act.put, List.setIfInBounds_toArray, List.set_cons_zero, List.set_cons_succ])) | (apply ot_skip rfl (by rfl) (by rfl) (fun _ => hBe); (try simp only [Act.put, List.setIfInBounds_toArray, List.set_cons_zero, List.set_cons_succ])))
      (refine ot_do rfl (by rfl) (by rfl) (fun K hK => ?_); go_simp; refine (toMetric_any _ w.heap.size _ _ _ _ _ _ _ _ _ (hsl hBe) (hsl' hBe) (by have := hBe.size; omega) hn hn').mono ?_; rintro e wm ⟨C1, e1, C2, e2, rfl, t1, t2, hb2⟩; (try replace bO := bO.all hb2); replace hBe := hBe.trans (hb2.mono hBe.size); clear hb2; refine hK.out _ _ (fun _ => hBe) ?_; (try simp only [Act.put, List.setIfInBounds_toArray, List.set_cons_zero, List.set_cons_succ]); clear hK K)
      repeat (first | (apply ot_tk rfl (by rfl) (by rfl) (by rfl); (focus (intro wx hSw; have r0 := (hSw.cell (p := ⟨w.heap.size, 0, none⟩) hszW).trans q0; have r1 := (hSw.cell (p := ⟨w.heap.size, 1, none⟩) hszW).trans q1; have r2 := (hSw.cell (p := ⟨w.heap.size, 2, none⟩) hszW).trans q2; have r3 := (hSw.cell (p := ⟨w.heap.size + 1, 0, none⟩) hszN).trans p0; have r4 := (hSw.cell (p := ⟨w.heap.size + 1, 1, none⟩) hszN).trans p1; have r5 := (hSw.cell (p := ⟨w.heap.size + 1, 2, none⟩) hszN).trans p2; go_simp; (try with_reducible rfl))); (try simp only [Act.put, List.setIfInBounds_toArray, List.set_cons_zero, List.set_cons_succ])) | (apply ot_skip rfl (by rfl) (by rfl) (fun _ => hBe); (try simp only [Act.put, List.setIfInBounds_toArray, List.set_cons_zero, List.set_cons_succ])))
      (refine ot_do rfl (by rfl) (by rfl) (fun K hK => ?_); go_simp; refine (toMetric_any _ w.heap.size _ _ _ _ _ _ _ _ _ (jsl hBe) (jsl' hBe) (by have := hBe.size; omega) jn jn').mono ?_; rintro e wn ⟨C3, e3, C4, e4, rfl, t3, t4, hb2⟩; (try replace bO := bO.all hb2); replace t1 := (t1.below hb2).more hb2.size; replace t2 := (t2.below hb2).more hb2.size; replace hBe := hBe.trans (hb2.mono hBe.size); clear hb2; refine hK.out _ _ (fun _ => hBe) ?_; (try simp only [Act.put, List.setIfInBounds_toArray, List.set_cons_zero, List.set_cons_succ]); clear hK K)
      repeat (first | (apply ot_tk rfl (by rfl) (by rfl) (by rfl); (focus (intro wx hSw; have r0 := (hSw.cell (p := ⟨w.heap.size, 0, none⟩) hszW).trans q0; have r1 := (hSw.cell (p := ⟨w.heap.size, 1, none⟩) hszW).trans q1; have r2 := (hSw.cell (p := ⟨w.heap.size, 2, none⟩) hszW).trans q2; have r3 := (hSw.cell (p := ⟨w.heap.size + 1, 0, none⟩) hszN).trans p0; have r4 := (hSw.cell (p := ⟨w.heap.size + 1, 1, none⟩) hszN).trans p1; have r5 := (hSw.cell (p := ⟨w.heap.size + 1, 2, none⟩) hszN).trans p2; go_simp; (try with_reducible rfl))); (try simp only [Act.put, List.setIfInBounds_toArray, List.set_cons_zero, List.set_cons_succ])) | (apply ot_skip rfl (by rfl) (by rfl) (fun _ => hBe); (try simp only [Act.put, List.setIfInBounds_toArray, List.set_cons_zero, List.set_cons_succ])))
      (refine ot_do rfl (by rfl) (by rfl) (fun K hK => ?_); go_simp; refine (hsp.out _ _ _ _ _ _ _ _ _ _ _ _ _ t1 t2 t3 t4 hn hn' jn jn').mono ?_; rintro e wf ⟨a1, a2, rfl, ha1, ha2, hap, hb2⟩; replace ha1 := ha1.less (show W.heap.size ≤ _ from hBe.size); replace ha2 := ha2.less (show W.heap.size ≤ _ from hBe.size); (try replace bO := bO.all hb2); replace hBe := hBe.trans (hb2.mono hBe.size); clear hb2; obtain ⟨Aw1, cw1, rfl⟩ := ha1.val; obtain ⟨Aw2, cw2, rfl⟩ := ha2.val; clear t1 t2 t3 t4 hap; refine hK.out _ _ (fun _ => hBe) ?_; (try simp only [Act.put, List.setIfInBounds_toArray, List.set_cons_zero, List.set_cons_succ]); clear hK K)
      repeat (first | (apply ot_tk rfl (by rfl) (by rfl) (by rfl); (focus (intro wx hSw; have r0 := (hSw.cell (p := ⟨w.heap.size, 0, none⟩) hszW).trans q0; have r1 := (hSw.cell (p := ⟨w.heap.size, 1, none⟩) hszW).trans q1; have r2 := (hSw.cell (p := ⟨w.heap.size, 2, none⟩) hszW).trans q2; have r3 := (hSw.cell (p := ⟨w.heap.size + 1, 0, none⟩) hszN).trans p0; have r4 := (hSw.cell (p := ⟨w.heap.size + 1, 1, none⟩) hszN).trans p1; have r5 := (hSw.cell (p := ⟨w.heap.size + 1, 2, none⟩) hszN).trans p2; go_simp; (try with_reducible rfl))); (try simp only [Act.put, List.setIfInBounds_toArray, List.set_cons_zero, List.set_cons_succ])) | (apply ot_skip rfl (by rfl) (by rfl) (fun _ => hBe); (try simp only [Act.put, List.setIfInBounds_toArray, List.set_cons_zero, List.set_cons_succ])))
      have r0 := bO.cell 0
      have r1 := bO.cell 1
      have r2 := bO.cell 2
      have f0 := bO.frozen 0
      have f1 := bO.frozen 1
      have f2 := bO.frozen 2
      have hbY := put3_blk (x := .slice Aw1 ro.length cw1) (y := .int .i64 rq) (z := .slice Aw2 rv.length cw2) bO
      have hBY : Below W.heap.size W (put3 wf g (.slice Aw1 ro.length cw1) (.int .i64 rq) (.slice Aw2 rv.length cw2)) := put3_below hBe hgB
      have hy1 := put3_own (x := .slice Aw1 ro.length cw1) (y := .int .i64 rq) (z := .slice Aw2 rv.length cw2) bO (by decide) ha1
      have hy2 := put3_own (x := .slice Aw1 ro.length cw1) (y := .int .i64 rq) (z := .slice Aw2 rv.length cw2) bO (by decide) ha2
      refine ot_do rfl (by rfl) (by rfl) (fun K hK => ?_)
      go_simp
      refine hK.out _ _ (fun _ => hBY) ?_
      (try simp only [Act.put, List.setIfInBounds_toArray, List.set_cons_zero, List.set_cons_succ])
      clear hK K
      clear r0 r1 r2 f0 f1 f2
      repeat (first | (apply ot_tk rfl (by rfl) (by rfl) (by rfl); (focus (intro wx hSw; have r0 := (hSw.cell (p := ⟨w.heap.size, 0, none⟩) hszW).trans q0; have r1 := (hSw.cell (p := ⟨w.heap.size, 1, none⟩) hszW).trans q1; have r2 := (hSw.cell (p := ⟨w.heap.size, 2, none⟩) hszW).trans q2; have r3 := (hSw.cell (p := ⟨w.heap.size + 1, 0, none⟩) hszN).trans p0; have r4 := (hSw.cell (p := ⟨w.heap.size + 1, 1, none⟩) hszN).trans p1; have r5 := (hSw.cell (p := ⟨w.heap.size + 1, 2, none⟩) hszN).trans p2; go_simp; (try with_reducible rfl))); (try simp only [Act.put, List.setIfInBounds_toArray, List.set_cons_zero, List.set_cons_succ])) | (apply ot_skip rfl (by rfl) (by rfl) (fun _ => hBe); (try simp only [Act.put, List.setIfInBounds_toArray, List.set_cons_zero, List.set_cons_succ])))
      refine ot_do rfl (by rfl) (by rfl) (fun K hK => ?_)
      go_simp
      refine hK.out _ _ (fun h => absurd h (by omega)) ?_
      (try simp only [Act.put, List.setIfInBounds_toArray, List.set_cons_zero, List.set_cons_succ])
      clear hK K
      refine ot_nil ?_
      go_wp2_with fail
      go_meet
      exact ⟨g, Aw1, cw1, Aw2, cw2, rfl, rfl, hbY, hy1, hy2, hBY⟩
  case rest =>
    clear k2
    obtain ⟨Y, Aw1, cw1, Aw2, cw2, rfl, rfl, bY, ha1, ha2, kk⟩ := hcut
    have r0 := (kk.cell (p := ⟨w.heap.size, 0, none⟩) hszW).trans q0
    have r1 := (kk.cell (p := ⟨w.heap.size, 1, none⟩) hszW).trans q1
    have r2 := (kk.cell (p := ⟨w.heap.size, 2, none⟩) hszW).trans q2
    go_wp2_with fail
    clear r0 r1 r2
    refine (toMetric_own _ w.heap.size _ _ _ _ _ _ _ _ _ (hsl kk) (hsl' kk) (by have := kk.size; omega) hn hn').mono ?_
    rintro e w4 ⟨x1, x2, rfl, hx1, hx2, hxap, hb4⟩
    have ax11 := ha1.apart hx1 (Nat.le_refl _)
    have ax12 := ha1.apart hx2 (Nat.le_refl _)
    have ax21 := ha2.apart hx1 (Nat.le_refl _)
    have ax22 := ha2.apart hx2 (Nat.le_refl _)
    have hkk := kk.size
    replace hx1 := hx1.less hkk
    replace hx2 := hx2.less hkk
    replace kk := kk.trans (hb4.mono kk.size)
    replace ha1 := ha1.below hb4
    replace ha2 := ha2.below hb4
    replace bY := bY.all hb4
    clear hb4 hkk
    obtain ⟨B3, d3, rfl⟩ := hx1.val
    obtain ⟨B4, d4, rfl⟩ := hx2.val
    obtain ⟨X, hXX⟩ : ∃ X, w4.heap.size = X := ⟨_, rfl⟩
    obtain ⟨w4', hWX⟩ : ∃ wn, w4.alloc (.cells #[.slice B3 os.length d3, .int .i64 z, .slice B4 vs.length d4] 28) = wn := ⟨_, rfl⟩
    have bX : Blk w4' X 28 #[.slice B3 os.length d3, .int .i64 z, .slice B4 vs.length d4] := by rw [← hWX]; exact Blk.new' _ _ _ _ hXX
    have hb4' : Below w4.heap.size w4 w4' := by rw [← hWX]; exact (Below.refl _ _).alloc (Nat.le_refl _) _
    replace kk := kk.trans (hb4'.mono kk.size)
    (try replace ha1 := ha1.below hb4')
    (try replace ha2 := ha2.below hb4')
    (try replace hx1 := hx1.below hb4')
    (try replace hx2 := hx2.below hb4')
    (try replace hv1 := hv1.below hb4')
    (try replace hv2 := hv2.below hb4')
    (try replace hg1 := hg1.below hb4')
    (try replace hg2 := hg2.below hb4')
    (try replace bY := bY.all hb4')
    (try replace bX := bX.all hb4')
    (try replace bV := bV.all hb4')
    (try replace bZ := bZ.all hb4')
    (try clear hb4')
    have r3 := (kk.cell (p := ⟨w.heap.size + 1, 0, none⟩) hszN).trans p0
    have r4 := (kk.cell (p := ⟨w.heap.size + 1, 1, none⟩) hszN).trans p1
    have r5 := (kk.cell (p := ⟨w.heap.size + 1, 2, none⟩) hszN).trans p2
    go_wp2_with fail
    clear r3 r4 r5 hXX hWX
    refine (toMetric_own _ w.heap.size _ _ _ _ _ _ _ _ _ (jsl kk) (jsl' kk) (by have := kk.size; omega) jn jn').mono ?_
    rintro e w5 ⟨v1, v2, rfl, hv1, hv2, hvap, hb5⟩
    have av11 := ha1.apart hv1 (Nat.le_refl _)
    have av12 := ha1.apart hv2 (Nat.le_refl _)
    have av21 := ha2.apart hv1 (Nat.le_refl _)
    have av22 := ha2.apart hv2 (Nat.le_refl _)
    have xv11 := hx1.apart hv1 (Nat.le_refl _)
    have xv12 := hx1.apart hv2 (Nat.le_refl _)
    have xv21 := hx2.apart hv1 (Nat.le_refl _)
    have xv22 := hx2.apart hv2 (Nat.le_refl _)
    have hkk := kk.size
    have hv1' := hv1.less hkk
    have hv2' := hv2.less hkk
    clear hv1 hv2 hkk
    replace kk := kk.trans (hb5.mono kk.size)
    (try replace ha1 := ha1.below hb5)
    (try replace ha2 := ha2.below hb5)
    (try replace hx1 := hx1.below hb5)
    (try replace hx2 := hx2.below hb5)
    (try replace hv1 := hv1.below hb5)
    (try replace hv2 := hv2.below hb5)
    (try replace hg1 := hg1.below hb5)
    (try replace hg2 := hg2.below hb5)
    (try replace bY := bY.all hb5)
    (try replace bX := bX.all hb5)
    (try replace bV := bV.all hb5)
    (try replace bZ := bZ.all hb5)
    (try clear hb5)
    have hv1 := hv1'
    have hv2 := hv2'
    clear hv1' hv2'
    obtain ⟨E3, f3, rfl⟩ := hv1.val
    obtain ⟨E4, f4, rfl⟩ := hv2.val
    obtain ⟨V, hXV⟩ : ∃ X, w5.heap.size = X := ⟨_, rfl⟩
    obtain ⟨w5', hWV⟩ : ∃ wn, w5.alloc (.cells #[.slice E3 ps.length f3, .int .i64 y, .slice E4 us.length f4] 28) = wn := ⟨_, rfl⟩
    have bV : Blk w5' V 28 #[.slice E3 ps.length f3, .int .i64 y, .slice E4 us.length f4] := by rw [← hWV]; exact Blk.new' _ _ _ _ hXV
    have hb5' : Below w5.heap.size w5 w5' := by rw [← hWV]; exact (Below.refl _ _).alloc (Nat.le_refl _) _
    replace kk := kk.trans (hb5'.mono kk.size)
    (try replace ha1 := ha1.below hb5')
    (try replace ha2 := ha2.below hb5')
    (try replace hx1 := hx1.below hb5')
    (try replace hx2 := hx2.below hb5')
    (try replace hv1 := hv1.below hb5')
    (try replace hv2 := hv2.below hb5')
    (try replace hg1 := hg1.below hb5')
    (try replace hg2 := hg2.below hb5')
    (try replace bY := bY.all hb5')
    (try replace bX := bX.all hb5')
    (try replace bV := bV.all hb5')
    (try replace bZ := bZ.all hb5')
    (try clear hb5')
    have t1 := hx1.here rfl h.rng
    have t2 := hx2.here rfl h'.rng
    have t3 := hv1.here rfl j.rng
    have t4 := hv2.here rfl j'.rng
    have x0 := bX.cell 0
    have x1 := bX.cell 1
    have x2 := bX.cell 2
    have v0 := bV.cell 0
    have v1 := bV.cell 1
    have v2 := bV.cell 2
    go_wp2_with fail
    clear x0 x1 x2 v0 v1 v2 hXV hWV
    refine (him.out _ _ _ _ _ _ _ _ _ _ _ _ _ t1 t2 t3 t4 hn hn' jn jn').mono ?_
    rintro e w6 ⟨g1, g2, rfl, hg1, hg2, hgap, hb6⟩
    clear t1 t2 t3 t4
    have ag11 := ha1.apart hg1 (Nat.le_refl _)
    have ag12 := ha1.apart hg2 (Nat.le_refl _)
    have ag21 := ha2.apart hg1 (Nat.le_refl _)
    have ag22 := ha2.apart hg2 (Nat.le_refl _)
    have xg11 := hx1.apart hg1 (Nat.le_refl _)
    have xg12 := hx1.apart hg2 (Nat.le_refl _)
    have xg21 := hx2.apart hg1 (Nat.le_refl _)
    have xg22 := hx2.apart hg2 (Nat.le_refl _)
    have vg11 := hv1.apart hg1 (Nat.le_refl _)
    have vg12 := hv1.apart hg2 (Nat.le_refl _)
    have vg21 := hv2.apart hg1 (Nat.le_refl _)
    have vg22 := hv2.apart hg2 (Nat.le_refl _)
    have hkk := kk.size
    replace hg1 := hg1.less hkk
    replace hg2 := hg2.less hkk
    clear hkk
    replace kk := kk.trans (hb6.mono kk.size)
    (try replace ha1 := ha1.below hb6)
    (try replace ha2 := ha2.below hb6)
    (try replace hx1 := hx1.below hb6)
    (try replace hx2 := hx2.below hb6)
    (try replace hv1 := hv1.below hb6)
    (try replace hv2 := hv2.below hb6)
    (try replace hg1 := hg1.below hb6)
    (try replace hg2 := hg2.below hb6)
    (try replace bY := bY.all hb6)
    (try replace bX := bX.all hb6)
    (try replace bV := bV.all hb6)
    (try replace bZ := bZ.all hb6)
    (try clear hb6)
    obtain ⟨G1, dg1, rfl⟩ := hg1.val
    obtain ⟨G2, dg2, rfl⟩ := hg2.val
    obtain ⟨Z, hXZ⟩ : ∃ X, w6.heap.size = X := ⟨_, rfl⟩
    obtain ⟨w6', hWZ⟩ : ∃ wn, w6.alloc (.cells #[.slice G1 ro.length dg1, .int .i64 rq, .slice G2 rv.length dg2] 28) = wn := ⟨_, rfl⟩
    have bZ : Blk w6' Z 28 #[.slice G1 ro.length dg1, .int .i64 rq, .slice G2 rv.length dg2] := by rw [← hWZ]; exact Blk.new' _ _ _ _ hXZ
    have hb6' : Below w6.heap.size w6 w6' := by rw [← hWZ]; exact (Below.refl _ _).alloc (Nat.le_refl _) _
    replace kk := kk.trans (hb6'.mono kk.size)
    (try replace ha1 := ha1.below hb6')
    (try replace ha2 := ha2.below hb6')
    (try replace hx1 := hx1.below hb6')
    (try replace hx2 := hx2.below hb6')
    (try replace hv1 := hv1.below hb6')
    (try replace hv2 := hv2.below hb6')
    (try replace hg1 := hg1.below hb6')
    (try replace hg2 := hg2.below hb6')
    (try replace bY := bY.all hb6')
    (try replace bX := bX.all hb6')
    (try replace bV := bV.all hb6')
    (try replace bZ := bZ.all hb6')
    (try clear hb6')
    have x0 := bY.cell 0
    have x1 := bY.cell 1
    have x2 := bY.cell 2
    have v0 := bZ.cell 0
    have v1 := bZ.cell 1
    have v2 := bZ.cell 2
    go_wp2_with fail
    clear x0 x1 x2 v0 v1 v2 hXZ hWZ
    refine (eqMetric_any _ _ _ _ _ _ _ _ _ _ _ _ _ _ _ _ _ _ _ _ (hg1.here rfl hr1.out) (hg2.here rfl hr2.out) (ha1.here rfl hr1.out) (ha2.here rfl hr2.out) (Nat.le_refl _) hl1.out hl2.out).mono ?_
    rintro e w7 ⟨rfl, hb7⟩
    simp only [beq_self_eq_true, Bool.and_self]
    replace kk := kk.trans (hb7.mono kk.size)
    (try replace ha1 := ha1.below hb7)
    (try replace ha2 := ha2.below hb7)
    (try replace hx1 := hx1.below hb7)
    (try replace hx2 := hx2.below hb7)
    (try replace hv1 := hv1.below hb7)
    (try replace hv2 := hv2.below hb7)
    (try replace hg1 := hg1.below hb7)
    (try replace hg2 := hg2.below hb7)
    (try replace bY := bY.all hb7)
    (try replace bX := bX.all hb7)
    (try replace bV := bV.all hb7)
    (try replace bZ := bZ.all hb7)
    (try clear hb7)
    have s1 := hx1.here rfl h.rng
    have s2 := hx2.here rfl h'.rng
    go_wp2_with fail
    have bWx := bW.all kk
    have bNx := bN.all kk
    have x0 := bX.cell 0
    have x1 := bX.cell 1
    have x2 := bX.cell 2
    have y0 := bWx.cell 0
    have y1 := bWx.cell 1
    have y2 := bWx.cell 2
    have z0 := bNx.cell 0
    have z1 := bNx.cell 1
    have z2 := bNx.cell 2
    have hXl := bX.lt
    have hwl := bWx.lt
    have hnl := bNx.lt
    refine wp_region_be [0, 1, 2, 3, 4] 5 w7.heap.size w7 (by kernel_rfl) (by kernel_rfl) (by kernel_rfl) (fun _ _ _ _ _ h => h) (Below.refl _ _) (fun wd hBe => ?_)
    repeat (first | (apply ord_tk rfl (by rfl) (by rfl) (by rfl); (focus (intro wx hSw; have r0 := (hSw.cell (p := ⟨w.heap.size, 0, none⟩) hwl).trans y0; have r1 := (hSw.cell (p := ⟨w.heap.size, 1, none⟩) hwl).trans y1; have r2 := (hSw.cell (p := ⟨w.heap.size, 2, none⟩) hwl).trans y2; have r3 := (hSw.cell (p := ⟨X, 0, none⟩) hXl).trans x0; have r4 := (hSw.cell (p := ⟨X, 1, none⟩) hXl).trans x1; have r5 := (hSw.cell (p := ⟨X, 2, none⟩) hXl).trans x2; have r6 := (hSw.cell (p := ⟨w.heap.size + 1, 0, none⟩) hnl).trans z0; have r7 := (hSw.cell (p := ⟨w.heap.size + 1, 1, none⟩) hnl).trans z1; have r8 := (hSw.cell (p := ⟨w.heap.size + 1, 2, none⟩) hnl).trans z2; go_simp; (try with_reducible rfl))); (try simp only [Act.put, List.setIfInBounds_toArray, List.set_cons_zero, List.set_cons_succ])) | (apply ord_skip rfl (by rfl) (by rfl) (fun _ => hBe); (try simp only [Act.put, List.setIfInBounds_toArray, List.set_cons_zero, List.set_cons_succ])))
    refine ord_do rfl (by rfl) (by rfl) (fun K hK => ?_)
    go_simp
    refine (toMetric_any _ w.heap.size _ _ _ _ _ _ _ _ _ (hsl (kk.trans (hBe.mono kk.size))) (hsl' (kk.trans (hBe.mono kk.size))) (by have := hBe.size; have := kk.size; omega) hn hn').mono ?_
    rintro e wt ⟨C1, e1, C2, e2, rfl, t1, t2, hbt⟩
    replace hBe := hBe.trans (hbt.mono hBe.size)
    refine hK.out _ _ (fun _ => hBe) ?_
    (try simp only [Act.put, List.setIfInBounds_toArray, List.set_cons_zero, List.set_cons_succ])
    clear hK K
    repeat (first | (apply ord_tk rfl (by rfl) (by rfl) (by rfl); (focus (intro wx hSw; have r0 := (hSw.cell (p := ⟨w.heap.size, 0, none⟩) hwl).trans y0; have r1 := (hSw.cell (p := ⟨w.heap.size, 1, none⟩) hwl).trans y1; have r2 := (hSw.cell (p := ⟨w.heap.size, 2, none⟩) hwl).trans y2; have r3 := (hSw.cell (p := ⟨X, 0, none⟩) hXl).trans x0; have r4 := (hSw.cell (p := ⟨X, 1, none⟩) hXl).trans x1; have r5 := (hSw.cell (p := ⟨X, 2, none⟩) hXl).trans x2; have r6 := (hSw.cell (p := ⟨w.heap.size + 1, 0, none⟩) hnl).trans z0; have r7 := (hSw.cell (p := ⟨w.heap.size + 1, 1, none⟩) hnl).trans z1; have r8 := (hSw.cell (p := ⟨w.heap.size + 1, 2, none⟩) hnl).trans z2; go_simp; (try with_reducible rfl))); (try simp only [Act.put, List.setIfInBounds_toArray, List.set_cons_zero, List.set_cons_succ])) | (apply ord_skip rfl (by rfl) (by rfl) (fun _ => hBe); (try simp only [Act.put, List.setIfInBounds_toArray, List.set_cons_zero, List.set_cons_succ])))
    have hz6 := hBe.size
    refine ord_do rfl (by rfl) (by rfl) (fun K hK => ?_)
    go_simp
    refine (eqMetric_any _ _ _ _ _ _ _ _ _ _ _ _ _ _ _ _ _ _ _ _ ((s1.below hBe).more hz6) ((s2.below hBe).more hz6) t1 t2 (Nat.le_refl _) hn hn').mono ?_
    rintro e wd' ⟨rfl, hwd⟩
    replace hBe := hBe.trans (hwd.mono hBe.size)
    clear hwd
    refine hK.out _ _ (fun _ => hBe) ?_
    (try simp only [Act.put, List.setIfInBounds_toArray, List.set_cons_zero, List.set_cons_succ])
    clear hK K
    simp only [beq_self_eq_true, Bool.and_self]
    repeat (first | (apply ord_tk rfl (by rfl) (by rfl) (by rfl); (focus (intro wx hSw; have r0 := (hSw.cell (p := ⟨w.heap.size, 0, none⟩) hwl).trans y0; have r1 := (hSw.cell (p := ⟨w.heap.size, 1, none⟩) hwl).trans y1; have r2 := (hSw.cell (p := ⟨w.heap.size, 2, none⟩) hwl).trans y2; have r3 := (hSw.cell (p := ⟨X, 0, none⟩) hXl).trans x0; have r4 := (hSw.cell (p := ⟨X, 1, none⟩) hXl).trans x1; have r5 := (hSw.cell (p := ⟨X, 2, none⟩) hXl).trans x2; have r6 := (hSw.cell (p := ⟨w.heap.size + 1, 0, none⟩) hnl).trans z0; have r7 := (hSw.cell (p := ⟨w.heap.size + 1, 1, none⟩) hnl).trans z1; have r8 := (hSw.cell (p := ⟨w.heap.size + 1, 2, none⟩) hnl).trans z2; go_simp; (try with_reducible rfl))); (try simp only [Act.put, List.setIfInBounds_toArray, List.set_cons_zero, List.set_cons_succ])) | (apply ord_skip rfl (by rfl) (by rfl) (fun _ => hBe); (try simp only [Act.put, List.setIfInBounds_toArray, List.set_cons_zero, List.set_cons_succ])))
    refine ord_nil ?_
    clear x0 x1 x2 y0 y1 y2 z0 z1 z2 t1 t2 hbt hz6 bWx bNx hXl hwl hnl
    clear s1 s2
    replace kk := kk.trans (hBe.mono kk.size)
    (try replace ha1 := ha1.below hBe)
    (try replace ha2 := ha2.below hBe)
    (try replace hx1 := hx1.below hBe)
    (try replace hx2 := hx2.below hBe)
    (try replace hv1 := hv1.below hBe)
    (try replace hv2 := hv2.below hBe)
    (try replace hg1 := hg1.below hBe)
    (try replace hg2 := hg2.below hBe)
    (try replace bY := bY.all hBe)
    (try replace bX := bX.all hBe)
    (try replace bV := bV.all hBe)
    (try replace bZ := bZ.all hBe)
    (try clear hBe)
    have s1 := hv1.here rfl j.rng
    have s2 := hv2.here rfl j'.rng
    go_wp2_with fail
    have bWx := bW.all kk
    have bNx := bN.all kk
    have x0 := bV.cell 0
    have x1 := bV.cell 1
    have x2 := bV.cell 2
    have y0 := bWx.cell 0
    have y1 := bWx.cell 1
    have y2 := bWx.cell 2
    have z0 := bNx.cell 0
    have z1 := bNx.cell 1
    have z2 := bNx.cell 2
    have hXl := bV.lt
    have hwl := bWx.lt
    have hnl := bNx.lt
    refine wp_region_be [0, 1, 2, 3, 4] 5 wd'.heap.size wd' (by kernel_rfl) (by kernel_rfl) (by kernel_rfl) (fun _ _ _ _ _ h => h) (Below.refl _ _) (fun wd hBe => ?_)
    repeat (first | (apply ord_tk rfl (by rfl) (by rfl) (by rfl); (focus (intro wx hSw; have r0 := (hSw.cell (p := ⟨w.heap.size, 0, none⟩) hwl).trans y0; have r1 := (hSw.cell (p := ⟨w.heap.size, 1, none⟩) hwl).trans y1; have r2 := (hSw.cell (p := ⟨w.heap.size, 2, none⟩) hwl).trans y2; have r3 := (hSw.cell (p := ⟨V, 0, none⟩) hXl).trans x0; have r4 := (hSw.cell (p := ⟨V, 1, none⟩) hXl).trans x1; have r5 := (hSw.cell (p := ⟨V, 2, none⟩) hXl).trans x2; have r6 := (hSw.cell (p := ⟨w.heap.size + 1, 0, none⟩) hnl).trans z0; have r7 := (hSw.cell (p := ⟨w.heap.size + 1, 1, none⟩) hnl).trans z1; have r8 := (hSw.cell (p := ⟨w.heap.size + 1, 2, none⟩) hnl).trans z2; go_simp; (try with_reducible rfl))); (try simp only [Act.put, List.setIfInBounds_toArray, List.set_cons_zero, List.set_cons_succ])) | (apply ord_skip rfl (by rfl) (by rfl) (fun _ => hBe); (try simp only [Act.put, List.setIfInBounds_toArray, List.set_cons_zero, List.set_cons_succ])))
    refine ord_do rfl (by rfl) (by rfl) (fun K hK => ?_)
    go_simp
    refine (toMetric_any _ w.heap.size _ _ _ _ _ _ _ _ _ (jsl (kk.trans (hBe.mono kk.size))) (jsl' (kk.trans (hBe.mono kk.size))) (by have := hBe.size; have := kk.size; omega) jn jn').mono ?_
    rintro e wt ⟨C1, e1, C2, e2, rfl, t1, t2, hbt⟩
    replace hBe := hBe.trans (hbt.mono hBe.size)
    refine hK.out _ _ (fun _ => hBe) ?_
    (try simp only [Act.put, List.setIfInBounds_toArray, List.set_cons_zero, List.set_cons_succ])
    clear hK K
    repeat (first | (apply ord_tk rfl (by rfl) (by rfl) (by rfl); (focus (intro wx hSw; have r0 := (hSw.cell (p := ⟨w.heap.size, 0, none⟩) hwl).trans y0; have r1 := (hSw.cell (p := ⟨w.heap.size, 1, none⟩) hwl).trans y1; have r2 := (hSw.cell (p := ⟨w.heap.size, 2, none⟩) hwl).trans y2; have r3 := (hSw.cell (p := ⟨V, 0, none⟩) hXl).trans x0; have r4 := (hSw.cell (p := ⟨V, 1, none⟩) hXl).trans x1; have r5 := (hSw.cell (p := ⟨V, 2, none⟩) hXl).trans x2; have r6 := (hSw.cell (p := ⟨w.heap.size + 1, 0, none⟩) hnl).trans z0; have r7 := (hSw.cell (p := ⟨w.heap.size + 1, 1, none⟩) hnl).trans z1; have r8 := (hSw.cell (p := ⟨w.heap.size + 1, 2, none⟩) hnl).trans z2; go_simp; (try with_reducible rfl))); (try simp only [Act.put, List.setIfInBounds_toArray, List.set_cons_zero, List.set_cons_succ])) | (apply ord_skip rfl (by rfl) (by rfl) (fun _ => hBe); (try simp only [Act.put, List.setIfInBounds_toArray, List.set_cons_zero, List.set_cons_succ])))
    have hz6 := hBe.size
    refine ord_do rfl (by rfl) (by rfl) (fun K hK => ?_)
    go_simp
    refine (eqMetric_any _ _ _ _ _ _ _ _ _ _ _ _ _ _ _ _ _ _ _ _ ((s1.below hBe).more hz6) ((s2.below hBe).more hz6) t1 t2 (Nat.le_refl _) jn jn').mono ?_
    rintro e wd' ⟨rfl, hwd⟩
    replace hBe := hBe.trans (hwd.mono hBe.size)
    clear hwd
    refine hK.out _ _ (fun _ => hBe) ?_
    (try simp only [Act.put, List.setIfInBounds_toArray, List.set_cons_zero, List.set_cons_succ])
    clear hK K
    simp only [beq_self_eq_true, Bool.and_self]
    repeat (first | (apply ord_tk rfl (by rfl) (by rfl) (by rfl); (focus (intro wx hSw; have r0 := (hSw.cell (p := ⟨w.heap.size, 0, none⟩) hwl).trans y0; have r1 := (hSw.cell (p := ⟨w.heap.size, 1, none⟩) hwl).trans y1; have r2 := (hSw.cell (p := ⟨w.heap.size, 2, none⟩) hwl).trans y2; have r3 := (hSw.cell (p := ⟨V, 0, none⟩) hXl).trans x0; have r4 := (hSw.cell (p := ⟨V, 1, none⟩) hXl).trans x1; have r5 := (hSw.cell (p := ⟨V, 2, none⟩) hXl).trans x2; have r6 := (hSw.cell (p := ⟨w.heap.size + 1, 0, none⟩) hnl).trans z0; have r7 := (hSw.cell (p := ⟨w.heap.size + 1, 1, none⟩) hnl).trans z1; have r8 := (hSw.cell (p := ⟨w.heap.size + 1, 2, none⟩) hnl).trans z2; go_simp; (try with_reducible rfl))); (try simp only [Act.put, List.setIfInBounds_toArray, List.set_cons_zero, List.set_cons_succ])) | (apply ord_skip rfl (by rfl) (by rfl) (fun _ => hBe); (try simp only [Act.put, List.setIfInBounds_toArray, List.set_cons_zero, List.set_cons_succ])))
    refine ord_nil ?_
    clear x0 x1 x2 y0 y1 y2 z0 z1 z2 t1 t2 hbt hz6 bWx bNx hXl hwl hnl
    clear s1 s2
    replace kk := kk.trans (hBe.mono kk.size)
    (try replace ha1 := ha1.below hBe)
    (try replace ha2 := ha2.below hBe)
    (try replace hx1 := hx1.below hBe)
    (try replace hx2 := hx2.below hBe)
    (try replace hv1 := hv1.below hBe)
    (try replace hv2 := hv2.below hBe)
    (try replace hg1 := hg1.below hBe)
    (try replace hg2 := hg2.below hBe)
    (try replace bY := bY.all hBe)
    (try replace bX := bX.all hBe)
    (try replace bV := bV.all hBe)
    (try replace bZ := bZ.all hBe)
    (try clear hBe)
    have x0 := bX.cell 0
    have x1 := bX.cell 1
    have x2 := bX.cell 2
    go_wp2_with fail
    clear x0 x1 x2
    refine (markMetric_any _ _ _ _ _ _ _ _ hx1 hx2 hxap hn hn' (by omega) (by omega)).mono ?_
    rintro e w9 hM
    replace kk := kk.trans (hM.keep (Nat.le_refl _) kk.size hx1 hx2)
    replace ha1 := hM.ow ha1 ax11 ax12
    replace ha2 := hM.ow ha2 ax21 ax22
    replace hv1 := hM.ow hv1 xv11.symm xv21.symm
    replace hv2 := hM.ow hv2 xv12.symm xv22.symm
    replace hg1 := hM.ow hg1 xg11.symm xg21.symm
    replace hg2 := hM.ow hg2 xg12.symm xg22.symm
    replace bY := hM.blk bY (by decide) hx1 hx2
    replace bV := hM.blk bV (by decide) hx1 hx2
    replace bZ := hM.blk bZ (by decide) hx1 hx2
    obtain ⟨rfl, -⟩ := hM
    clear hx1 hx2 bX
    obtain ⟨km, hkm, hkm0, hkm1⟩ : ∃ km : Int, 1 + (os.length : Int) + (vs.length : Int) = km ∧ 0 ≤ km ∧ km ≤ 100000000 := ⟨_, rfl, by omega, by omega⟩
    rw [hkm]
    have HKM := hide hkm
    clear hkm
    have x0 := bV.cell 0
    have x1 := bV.cell 1
    have x2 := bV.cell 2
    go_wp2_with fail
    clear x0 x1 x2
    refine (markMetric_any _ _ _ _ _ _ _ _ hv1 hv2 hvap jn jn' hkm0 hkm1).mono ?_
    rintro e w10 hM
    replace kk := kk.trans (hM.keep (Nat.le_refl _) kk.size hv1 hv2)
    replace ha1 := hM.ow ha1 av11 av12
    replace ha2 := hM.ow ha2 av21 av22
    replace hg1 := hM.ow hg1 vg11.symm vg21.symm
    replace hg2 := hM.ow hg2 vg12.symm vg22.symm
    replace bY := hM.blk bY (by decide) hv1 hv2
    replace bZ := hM.blk bZ (by decide) hv1 hv2
    obtain ⟨rfl, -⟩ := hM
    clear hv1 hv2 bV
    obtain ⟨kn, hkn, hkn0⟩ : ∃ kn : Int, km + (ps.length : Int) + (us.length : Int) = kn ∧ 0 ≤ kn := ⟨_, rfl, by omega⟩
    rw [hkn]
    have HKN := hide hkn
    clear hkn
    have x0 := bY.cell 0
    have x1 := bY.cell 1
    have x2 := bY.cell 2
    have v0 := bZ.cell 0
    have v1 := bZ.cell 1
    have v2 := bZ.cell 2
    go_wp2_with fail
    clear x0 x1 x2 v0 v1 v2
    refine (eqMetric_any _ _ _ _ _ _ _ _ _ _ _ _ _ _ _ _ _ _ _ _ (hg1.here rfl hr1.out) (hg2.here rfl hr2.out) (ha1.here rfl hr1.out) (ha2.here rfl hr2.out) (Nat.le_refl _) hl1.out hl2.out).mono ?_
    rintro e w11 ⟨rfl, hb11⟩
    simp only [beq_self_eq_true, Bool.and_self]
    replace kk := kk.trans (hb11.mono kk.size)
    (try replace ha1 := ha1.below hb11)
    (try replace ha2 := ha2.below hb11)
    (try replace hx1 := hx1.below hb11)
    (try replace hx2 := hx2.below hb11)
    (try replace hv1 := hv1.below hb11)
    (try replace hv2 := hv2.below hb11)
    (try replace hg1 := hg1.below hb11)
    (try replace hg2 := hg2.below hb11)
    (try replace bY := bY.all hb11)
    (try replace bX := bX.all hb11)
    (try replace bV := bV.all hb11)
    (try replace bZ := bZ.all hb11)
    (try clear hb11)
    have hL1 := hl1.out
    have hL2 := hl2.out
    have v0 := bZ.cell 0
    have v1 := bZ.cell 1
    have v2 := bZ.cell 2
    go_wp2_with fail
    clear v0 v1 v2
    refine (markMetric_any _ _ _ _ _ _ _ _ hg1 hg2 hgap hL1 hL2 (by omega) (by omega)).mono ?_
    rintro e w12 hM
    replace kk := kk.trans (hM.keep (Nat.le_refl _) kk.size hg1 hg2)
    replace ha1 := hM.ow ha1 ag11 ag12
    replace ha2 := hM.ow ha2 ag21 ag22
    replace bY := hM.blk bY (by decide) hg1 hg2
    replace bZ := hM.blk bZ (by decide) hg1 hg2
    obtain ⟨rfl, hm1, hm2, -⟩ := hM
    have sm1 := hm1.here (marks_length _ _) (marks_rng _ _ (by omega) (by omega) hL1)
    have sm2 := hm2.here (marks_length _ _) (marks_rng _ _ (by omega) (by omega) hL2)
    clear hg1 hg2
    have hg1 := hm1
    have hg2 := hm2
    clear hm1 hm2
    obtain ⟨mm, hmm, hmm0⟩ : ∃ mm : Int, 1 + (ro.length : Int) + (rv.length : Int) = mm ∧ 0 ≤ mm := ⟨_, rfl, by omega⟩
    have hmk : heldM 1 (marks 1 ro.length) (marks (1 + ro.length) rv.length) = mm := by
      have e1 : heldI 1 (marks 1 ro.length) = 1 + ro.length := heldI_marks _ _
      have e2 : heldI (1 + ro.length) (marks (1 + ro.length) rv.length) = 1 + ro.length + rv.length := heldI_marks _ _
      rw [heldM_3 (by rw [e1]; omega) (by rw [e1, e2]; omega), e1, e2, hmm]
    rw [hmm]
    have HMM := hide hmm
    have HMK := hide hmk
    clear hmm hmk
    have v0 := bZ.cell 0
    have v1 := bZ.cell 1
    have v2 := bZ.cell 2
    go_wp2_with fail
    clear v0 v1 v2
    refine (heldMetric_any _ _ _ _ _ _ _ _ _ 1 _ _ sm1 sm2 (Nat.le_refl _) hL1 hL2 (by omega) (by omega)).mono ?_
    rintro e w13 ⟨rfl, hb13⟩
    rw [HMK.out]
    replace kk := kk.trans (hb13.mono kk.size)
    (try replace ha1 := ha1.below hb13)
    (try replace ha2 := ha2.below hb13)
    (try replace hx1 := hx1.below hb13)
    (try replace hx2 := hx2.below hb13)
    (try replace hv1 := hv1.below hb13)
    (try replace hv2 := hv2.below hb13)
    (try replace hg1 := hg1.below hb13)
    (try replace hg2 := hg2.below hb13)
    (try replace bY := bY.all hb13)
    (try replace bX := bX.all hb13)
    (try replace bV := bV.all hb13)
    (try replace bZ := bZ.all hb13)
    (try clear hb13)
    clear sm1 sm2
    go_upto_region 31 with fail
    go_cut [15, 16] (fun s6 s7 wx => ∃ U B1 d1 B2 d2, s6 = .pointer (some ⟨U, 0, none⟩) ∧ s7 = .int .i64 code ∧ Blk wx U 28 #[.slice B1 ro.length d1, .int .i64 rq, .slice B2 rv.length d2] ∧ Ow wx w13.heap.size (.slice B1 ro.length d1) ro ∧ Ow wx w13.heap.size (.slice B2 rv.length d2) rv ∧ Below w13.heap.size w13 wx)
    case first =>
      have q0 := (kk.cell (p := ⟨w.heap.size, 0, none⟩) hszW).trans q0
      have q1 := (kk.cell (p := ⟨w.heap.size, 1, none⟩) hszW).trans q1
      have q2 := (kk.cell (p := ⟨w.heap.size, 2, none⟩) hszW).trans q2
      have p0 := (kk.cell (p := ⟨w.heap.size + 1, 0, none⟩) hszN).trans p0
      have p1 := (kk.cell (p := ⟨w.heap.size + 1, 1, none⟩) hszN).trans p1
      have p2 := (kk.cell (p := ⟨w.heap.size + 1, 2, none⟩) hszN).trans p2
      have z1 := Nat.lt_of_lt_of_le hszW kk.size
      have z2 := Nat.lt_of_lt_of_le hszN kk.size
      have z3 : ∀ {wd}, Below w13.heap.size w13 wd → Sl wd w.heap.size A os.length c os := fun q => hsl (kk.trans (q.mono kk.size))
      have z4 : ∀ {wd}, Below w13.heap.size w13 wd → Sl wd w.heap.size A' vs.length c' vs := fun q => hsl' (kk.trans (q.mono kk.size))
      have z5 : ∀ {wd}, Below w13.heap.size w13 wd → Sl wd w.heap.size E ps.length d ps := fun q => jsl (kk.trans (q.mono kk.size))
      have z6 : ∀ {wd}, Below w13.heap.size w13 wd → Sl wd w.heap.size E' us.length d' us := fun q => jsl' (kk.trans (q.mono kk.size))
      obtain ⟨W, rfl⟩ : ∃ W, W = w13 := ⟨_, rfl⟩
      clear ha1 ha2 hg1 hg2
      have hszW := z1
      have hszN := z2
      have hsl := @z3
      have hsl' := @z4
      have jsl := @z5
      have jsl' := @z6
      refine wp_region_bt (.one 0 (.one 2 (.two 1 (.two 3 (.two 4 (.one 5 (.one 6 (.one 7 (.one 8 (.one 9 (.one 10 .nil)))))) 8 (.one 4 (.one 5 (.one 6 (.one 7 (.one 9 (.one 10 .nil))))))) 8 (.one 3 (.one 4 (.one 5 (.one 6 (.one 7 (.one 9 (.one 10 .nil)))))))) 8 (.one 1 (.one 3 (.one 4 (.one 5 (.one 6 (.one 7 (.one 9 (.one 10 .nil))))))))))) 10 W.heap.size W (by kernel_rfl) (by kernel_rfl) (by kernel_rfl) (fun _ _ _ _ _ h => h) (Below.refl _ _) (fun wd hBe => ?_)
      repeat (first | (apply ot_tk rfl (by rfl) (by rfl) (by rfl); (focus (intro wx hSw; have r0 := (hSw.cell (p := ⟨w.heap.size, 0, none⟩) hszW).trans q0; have r1 := (hSw.cell (p := ⟨w.heap.size, 1, none⟩) hszW).trans q1; have r2 := (hSw.cell (p := ⟨w.heap.size, 2, none⟩) hszW).trans q2; have r3 := (hSw.cell (p := ⟨w.heap.size + 1, 0, none⟩) hszN).trans p0; have r4 := (hSw.cell (p := ⟨w.heap.size + 1, 1, none⟩) hszN).trans p1; have r5 := (hSw.cell (p := ⟨w.heap.size + 1, 2, none⟩) hszN).trans p2; go_simp; (try with_reducible rfl))); (try simp only [Act.put, List.setIfInBounds_toArray, List.set_cons_zero, List.set_cons_succ])) | (apply ot_skip rfl (by rfl) (by rfl) (fun _ => hBe); (try simp only [Act.put, List.setIfInBounds_toArray, List.set_cons_zero, List.set_cons_succ])))
      refine ot_two ?_ ?_
      · skip
        (refine ot_do rfl (by rfl) (by rfl) (fun K hK => ?_); go_simp; refine (toMetric_any _ w.heap.size _ _ _ _ _ _ _ _ _ (hsl hBe) (hsl' hBe) (by have := hBe.size; omega) hn hn').mono ?_; rintro e wm ⟨C1, e1, C2, e2, rfl, t1, t2, hb2⟩; (try replace bO := bO.all hb2); replace hBe := hBe.trans (hb2.mono hBe.size); clear hb2; refine hK.out _ _ (fun _ => hBe) ?_; (try simp only [Act.put, List.setIfInBounds_toArray, List.set_cons_zero, List.set_cons_succ]); clear hK K)
        repeat (first | (apply ot_tk rfl (by rfl) (by rfl) (by rfl); (focus (intro wx hSw; have r0 := (hSw.cell (p := ⟨w.heap.size, 0, none⟩) hszW).trans q0; have r1 := (hSw.cell (p := ⟨w.heap.size, 1, none⟩) hszW).trans q1; have r2 := (hSw.cell (p := ⟨w.heap.size, 2, none⟩) hszW).trans q2; have r3 := (hSw.cell (p := ⟨w.heap.size + 1, 0, none⟩) hszN).trans p0; have r4 := (hSw.cell (p := ⟨w.heap.size + 1, 1, none⟩) hszN).trans p1; have r5 := (hSw.cell (p := ⟨w.heap.size + 1, 2, none⟩) hszN).trans p2; go_simp; (try with_reducible rfl))); (try simp only [Act.put, List.setIfInBounds_toArray, List.set_cons_zero, List.set_cons_succ])) | (apply ot_skip rfl (by rfl) (by rfl) (fun _ => hBe); (try simp only [Act.put, List.setIfInBounds_toArray, List.set_cons_zero, List.set_cons_succ])))
        refine ot_two ?_ ?_
        · skip
          (refine ot_do rfl (by rfl) (by rfl) (fun K hK => ?_); go_simp; refine (toMetric_any _ w.heap.size _ _ _ _ _ _ _ _ _ (jsl hBe) (jsl' hBe) (by have := hBe.size; omega) jn jn').mono ?_; rintro e wn ⟨C3, e3, C4, e4, rfl, t3, t4, hb2⟩; (try replace bO := bO.all hb2); replace t1 := (t1.below hb2).more hb2.size; replace t2 := (t2.below hb2).more hb2.size; replace hBe := hBe.trans (hb2.mono hBe.size); clear hb2; refine hK.out _ _ (fun _ => hBe) ?_; (try simp only [Act.put, List.setIfInBounds_toArray, List.set_cons_zero, List.set_cons_succ]); clear hK K)
          repeat (first | (apply ot_tk rfl (by rfl) (by rfl) (by rfl); (focus (intro wx hSw; have r0 := (hSw.cell (p := ⟨w.heap.size, 0, none⟩) hszW).trans q0; have r1 := (hSw.cell (p := ⟨w.heap.size, 1, none⟩) hszW).trans q1; have r2 := (hSw.cell (p := ⟨w.heap.size, 2, none⟩) hszW).trans q2; have r3 := (hSw.cell (p := ⟨w.heap.size + 1, 0, none⟩) hszN).trans p0; have r4 := (hSw.cell (p := ⟨w.heap.size + 1, 1, none⟩) hszN).trans p1; have r5 := (hSw.cell (p := ⟨w.heap.size + 1, 2, none⟩) hszN).trans p2; go_simp; (try with_reducible rfl))); (try simp only [Act.put, List.setIfInBounds_toArray, List.set_cons_zero, List.set_cons_succ])) | (apply ot_skip rfl (by rfl) (by rfl) (fun _ => hBe); (try simp only [Act.put, List.setIfInBounds_toArray, List.set_cons_zero, List.set_cons_succ])))
          refine ot_two ?_ ?_
          · skip
            (refine ot_do rfl (by rfl) (by rfl) (fun K hK => ?_); go_simp; refine (him.out _ _ _ _ _ _ _ _ _ _ _ _ _ t1 t2 t3 t4 hn hn' jn jn').mono ?_; rintro e wf ⟨a1, a2, rfl, ha1, ha2, hap, hb2⟩; replace ha1 := ha1.less (show W.heap.size ≤ _ from hBe.size); replace ha2 := ha2.less (show W.heap.size ≤ _ from hBe.size); (try replace bO := bO.all hb2); replace hBe := hBe.trans (hb2.mono hBe.size); clear hb2; obtain ⟨Aw1, cw1, rfl⟩ := ha1.val; obtain ⟨Aw2, cw2, rfl⟩ := ha2.val; clear t1 t2 t3 t4 hap; refine hK.out _ _ (fun _ => hBe) ?_; (try simp only [Act.put, List.setIfInBounds_toArray, List.set_cons_zero, List.set_cons_succ]); clear hK K)
            repeat (first | (apply ot_tk rfl (by rfl) (by rfl) (by rfl); (focus (intro wx hSw; have r0 := (hSw.cell (p := ⟨w.heap.size, 0, none⟩) hszW).trans q0; have r1 := (hSw.cell (p := ⟨w.heap.size, 1, none⟩) hszW).trans q1; have r2 := (hSw.cell (p := ⟨w.heap.size, 2, none⟩) hszW).trans q2; have r3 := (hSw.cell (p := ⟨w.heap.size + 1, 0, none⟩) hszN).trans p0; have r4 := (hSw.cell (p := ⟨w.heap.size + 1, 1, none⟩) hszN).trans p1; have r5 := (hSw.cell (p := ⟨w.heap.size + 1, 2, none⟩) hszN).trans p2; go_simp; (try with_reducible rfl))); (try simp only [Act.put, List.setIfInBounds_toArray, List.set_cons_zero, List.set_cons_succ])) | (apply ot_skip rfl (by rfl) (by rfl) (fun _ => hBe); (try simp only [Act.put, List.setIfInBounds_toArray, List.set_cons_zero, List.set_cons_succ])))
            (refine ot_do rfl (by rfl) (by rfl) (fun K hK => ?_); go_simp; obtain ⟨wa, g, hg, hwa, hBa, hsub, bO, hgB⟩ := be_alloc hBe 28 #[.slice none 0 0, .int .i64 0, .slice none 0 0]; rw [hwa, hg]; clear hwa hg; (try replace t1 := (t1.below hsub).more hsub.size); (try replace t2 := (t2.below hsub).more hsub.size); (try replace t3 := (t3.below hsub).more hsub.size); (try replace t4 := (t4.below hsub).more hsub.size); (try replace ha1 := ha1.below hsub); (try replace ha2 := ha2.below hsub); clear hBe hsub; have hBe := hBa; clear hBa; refine hK.out _ _ (fun _ => hBe) ?_; (try simp only [Act.put, List.setIfInBounds_toArray, List.set_cons_zero, List.set_cons_succ]); clear hK K)
            repeat (first | (apply ot_tk rfl (by rfl) (by rfl) (by rfl); (focus (intro wx hSw; have r0 := (hSw.cell (p := ⟨w.heap.size, 0, none⟩) hszW).trans q0; have r1 := (hSw.cell (p := ⟨w.heap.size, 1, none⟩) hszW).trans q1; have r2 := (hSw.cell (p := ⟨w.heap.size, 2, none⟩) hszW).trans q2; have r3 := (hSw.cell (p := ⟨w.heap.size + 1, 0, none⟩) hszN).trans p0; have r4 := (hSw.cell (p := ⟨w.heap.size + 1, 1, none⟩) hszN).trans p1; have r5 := (hSw.cell (p := ⟨w.heap.size + 1, 2, none⟩) hszN).trans p2; go_simp; (try with_reducible rfl))); (try simp only [Act.put, List.setIfInBounds_toArray, List.set_cons_zero, List.set_cons_succ])) | (apply ot_skip rfl (by rfl) (by rfl) (fun _ => hBe); (try simp only [Act.put, List.setIfInBounds_toArray, List.set_cons_zero, List.set_cons_succ])))
            have r0 := bO.cell 0
            have r1 := bO.cell 1
            have r2 := bO.cell 2
            have f0 := bO.frozen 0
            have f1 := bO.frozen 1
            have f2 := bO.frozen 2
            have hbY := put3_blk (x := .slice Aw1 ro.length cw1) (y := .int .i64 rq) (z := .slice Aw2 rv.length cw2) bO
            have hBY : Below W.heap.size W (put3 wa g (.slice Aw1 ro.length cw1) (.int .i64 rq) (.slice Aw2 rv.length cw2)) := put3_below hBe hgB
            have hy1 := put3_own (x := .slice Aw1 ro.length cw1) (y := .int .i64 rq) (z := .slice Aw2 rv.length cw2) bO (by decide) ha1
            have hy2 := put3_own (x := .slice Aw1 ro.length cw1) (y := .int .i64 rq) (z := .slice Aw2 rv.length cw2) bO (by decide) ha2
            refine ot_do rfl (by rfl) (by rfl) (fun K hK => ?_)
            go_simp
            refine hK.out _ _ (fun _ => hBY) ?_
            (try simp only [Act.put, List.setIfInBounds_toArray, List.set_cons_zero, List.set_cons_succ])
            clear hK K
            clear r0 r1 r2 f0 f1 f2
            repeat (first | (apply ot_tk rfl (by rfl) (by rfl) (by rfl); (focus (intro wx hSw; have r0 := (hSw.cell (p := ⟨w.heap.size, 0, none⟩) hszW).trans q0; have r1 := (hSw.cell (p := ⟨w.heap.size, 1, none⟩) hszW).trans q1; have r2 := (hSw.cell (p := ⟨w.heap.size, 2, none⟩) hszW).trans q2; have r3 := (hSw.cell (p := ⟨w.heap.size + 1, 0, none⟩) hszN).trans p0; have r4 := (hSw.cell (p := ⟨w.heap.size + 1, 1, none⟩) hszN).trans p1; have r5 := (hSw.cell (p := ⟨w.heap.size + 1, 2, none⟩) hszN).trans p2; go_simp; (try with_reducible rfl))); (try simp only [Act.put, List.setIfInBounds_toArray, List.set_cons_zero, List.set_cons_succ])) | (apply ot_skip rfl (by rfl) (by rfl) (fun _ => hBe); (try simp only [Act.put, List.setIfInBounds_toArray, List.set_cons_zero, List.set_cons_succ])))
            refine ot_do rfl (by rfl) (by rfl) (fun K hK => ?_)
            go_simp
            refine hK.out _ _ (fun h => absurd h (by omega)) ?_
            (try simp only [Act.put, List.setIfInBounds_toArray, List.set_cons_zero, List.set_cons_succ])
            clear hK K
            refine ot_nil ?_
            go_wp2_with fail
            go_meet
            exact ⟨g, Aw1, cw1, Aw2, cw2, rfl, rfl, hbY, hy1, hy2, hBY⟩
          · skip
            (refine ot_do rfl (by rfl) (by rfl) (fun K hK => ?_); go_simp; obtain ⟨wa, g, hg, hwa, hBa, hsub, bO, hgB⟩ := be_alloc hBe 28 #[.slice none 0 0, .int .i64 0, .slice none 0 0]; rw [hwa, hg]; clear hwa hg; (try replace t1 := (t1.below hsub).more hsub.size); (try replace t2 := (t2.below hsub).more hsub.size); (try replace t3 := (t3.below hsub).more hsub.size); (try replace t4 := (t4.below hsub).more hsub.size); (try replace ha1 := ha1.below hsub); (try replace ha2 := ha2.below hsub); clear hBe hsub; have hBe := hBa; clear hBa; refine hK.out _ _ (fun _ => hBe) ?_; (try simp only [Act.put, List.setIfInBounds_toArray, List.set_cons_zero, List.set_cons_succ]); clear hK K)
            repeat (first | (apply ot_tk rfl (by rfl) (by rfl) (by rfl); (focus (intro wx hSw; have r0 := (hSw.cell (p := ⟨w.heap.size, 0, none⟩) hszW).trans q0; have r1 := (hSw.cell (p := ⟨w.heap.size, 1, none⟩) hszW).trans q1; have r2 := (hSw.cell (p := ⟨w.heap.size, 2, none⟩) hszW).trans q2; have r3 := (hSw.cell (p := ⟨w.heap.size + 1, 0, none⟩) hszN).trans p0; have r4 := (hSw.cell (p := ⟨w.heap.size + 1, 1, none⟩) hszN).trans p1; have r5 := (hSw.cell (p := ⟨w.heap.size + 1, 2, none⟩) hszN).trans p2; go_simp; (try with_reducible rfl))); (try simp only [Act.put, List.setIfInBounds_toArray, List.set_cons_zero, List.set_cons_succ])) | (apply ot_skip rfl (by rfl) (by rfl) (fun _ => hBe); (try simp only [Act.put, List.setIfInBounds_toArray, List.set_cons_zero, List.set_cons_succ])))
            (refine ot_do rfl (by rfl) (by rfl) (fun K hK => ?_); go_simp; refine (him.out _ _ _ _ _ _ _ _ _ _ _ _ _ t1 t2 t3 t4 hn hn' jn jn').mono ?_; rintro e wf ⟨a1, a2, rfl, ha1, ha2, hap, hb2⟩; replace ha1 := ha1.less (show W.heap.size ≤ _ from hBe.size); replace ha2 := ha2.less (show W.heap.size ≤ _ from hBe.size); (try replace bO := bO.all hb2); replace hBe := hBe.trans (hb2.mono hBe.size); clear hb2; obtain ⟨Aw1, cw1, rfl⟩ := ha1.val; obtain ⟨Aw2, cw2, rfl⟩ := ha2.val; clear t1 t2 t3 t4 hap; refine hK.out _ _ (fun _ => hBe) ?_; (try simp only [Act.put, List.setIfInBounds_toArray, List.set_cons_zero, List.set_cons_succ]); clear hK K)
            repeat (first | (apply ot_tk rfl (by rfl) (by rfl) (by rfl); (focus (intro wx hSw; have r0 := (hSw.cell (p := ⟨w.heap.size, 0, none⟩) hszW).trans q0; have r1 := (hSw.cell (p := ⟨w.heap.size, 1, none⟩) hszW).trans q1; have r2 := (hSw.cell (p := ⟨w.heap.size, 2, none⟩) hszW).trans q2; have r3 := (hSw.cell (p := ⟨w.heap.size + 1, 0, none⟩) hszN).trans p0; have r4 := (hSw.cell (p := ⟨w.heap.size + 1, 1, none⟩) hszN).trans p1; have r5 := (hSw.cell (p := ⟨w.heap.size + 1, 2, none⟩) hszN).trans p2; go_simp; (try with_reducible rfl))); (try simp only [Act.put, List.setIfInBounds_toArray, List.set_cons_zero, List.set_cons_succ])) | (apply ot_skip rfl (by rfl) (by rfl) (fun _ => hBe); (try simp only [Act.put, List.setIfInBounds_toArray, List.set_cons_zero, List.set_cons_succ])))
            have r0 := bO.cell 0
            have r1 := bO.cell 1
            have r2 := bO.cell 2
            have f0 := bO.frozen 0
            have f1 := bO.frozen 1
            have f2 := bO.frozen 2
            have hbY := put3_blk (x := .slice Aw1 ro.length cw1) (y := .int .i64 rq) (z := .slice Aw2 rv.length cw2) bO
            have hBY : Below W.heap.size W (put3 wf g (.slice Aw1 ro.length cw1) (.int .i64 rq) (.slice Aw2 rv.length cw2)) := put3_below hBe hgB
            have hy1 := put3_own (x := .slice Aw1 ro.length cw1) (y := .int .i64 rq) (z := .slice Aw2 rv.length cw2) bO (by decide) ha1
            have hy2 := put3_own (x := .slice Aw1 ro.length cw1) (y := .int .i64 rq) (z := .slice Aw2 rv.length cw2) bO (by decide) ha2
            refine ot_do rfl (by rfl) (by rfl) (fun K hK => ?_)
            go_simp
            refine hK.out _ _ (fun _ => hBY) ?_
            (try simp only [Act.put, List.setIfInBounds_toArray, List.set_cons_zero, List.set_cons_succ])
            clear hK K
            clear r0 r1 r2 f0 f1 f2
            repeat (first | (apply ot_tk rfl (by rfl) (by rfl) (by rfl); (focus (intro wx hSw; have r0 := (hSw.cell (p := ⟨w.heap.size, 0, none⟩) hszW).trans q0; have r1 := (hSw.cell (p := ⟨w.heap.size, 1, none⟩) hszW).trans q1; have r2 := (hSw.cell (p := ⟨w.heap.size, 2, none⟩) hszW).trans q2; have r3 := (hSw.cell (p := ⟨w.heap.size + 1, 0, none⟩) hszN).trans p0; have r4 := (hSw.cell (p := ⟨w.heap.size + 1, 1, none⟩) hszN).trans p1; have r5 := (hSw.cell (p := ⟨w.heap.size + 1, 2, none⟩) hszN).trans p2; go_simp; (try with_reducible rfl))); (try simp only [Act.put, List.setIfInBounds_toArray, List.set_cons_zero, List.set_cons_succ])) | (apply ot_skip rfl (by rfl) (by rfl) (fun _ => hBe); (try simp only [Act.put, List.setIfInBounds_toArray, List.set_cons_zero, List.set_cons_succ])))
            refine ot_do rfl (by rfl) (by rfl) (fun K hK => ?_)
            go_simp
            refine hK.out _ _ (fun h => absurd h (by omega)) ?_
            (try simp only [Act.put, List.setIfInBounds_toArray, List.set_cons_zero, List.set_cons_succ])
            clear hK K
            refine ot_nil ?_
            go_wp2_with fail
            go_meet
            exact ⟨g, Aw1, cw1, Aw2, cw2, rfl, rfl, hbY, hy1, hy2, hBY⟩
        · skip
          (refine ot_do rfl (by rfl) (by rfl) (fun K hK => ?_); go_simp; obtain ⟨wa, g, hg, hwa, hBa, hsub, bO, hgB⟩ := be_alloc hBe 28 #[.slice none 0 0, .int .i64 0, .slice none 0 0]; rw [hwa, hg]; clear hwa hg; (try replace t1 := (t1.below hsub).more hsub.size); (try replace t2 := (t2.below hsub).more hsub.size); (try replace t3 := (t3.below hsub).more hsub.size); (try replace t4 := (t4.below hsub).more hsub.size); (try replace ha1 := ha1.below hsub); (try replace ha2 := ha2.below hsub); clear hBe hsub; have hBe := hBa; clear hBa; refine hK.out _ _ (fun _ => hBe) ?_; (try simp only [Act.put, List.setIfInBounds_toArray, List.set_cons_zero, List.set_cons_succ]); clear hK K)
          repeat (first | (apply ot_tk rfl (by rfl) (by rfl) (by rfl); (focus (intro wx hSw; have r0 := (hSw.cell (p := ⟨w.heap.size, 0, none⟩) hszW).trans q0; have r1 := (hSw.cell (p := ⟨w.heap.size, 1, none⟩) hszW).trans q1; have r2 := (hSw.cell (p := ⟨w.heap.size, 2, none⟩) hszW).trans q2; have r3 := (hSw.cell (p := ⟨w.heap.size + 1, 0, none⟩) hszN).trans p0; have r4 := (hSw.cell (p := ⟨w.heap.size + 1, 1, none⟩) hszN).trans p1; have r5 := (hSw.cell (p := ⟨w.heap.size + 1, 2, none⟩) hszN).trans p2; go_simp; (try with_reducible rfl))); (try simp only [Act.put, List.setIfInBounds_toArray, List.set_cons_zero, List.set_cons_succ])) | (apply ot_skip rfl (by rfl) (by rfl) (fun _ => hBe); (try simp only [Act.put, List.setIfInBounds_toArray, List.set_cons_zero, List.set_cons_succ])))
          (refine ot_do rfl (by rfl) (by rfl) (fun K hK => ?_); go_simp; refine (toMetric_any _ w.heap.size _ _ _ _ _ _ _ _ _ (jsl hBe) (jsl' hBe) (by have := hBe.size; omega) jn jn').mono ?_; rintro e wn ⟨C3, e3, C4, e4, rfl, t3, t4, hb2⟩; (try replace bO := bO.all hb2); replace t1 := (t1.below hb2).more hb2.size; replace t2 := (t2.below hb2).more hb2.size; replace hBe := hBe.trans (hb2.mono hBe.size); clear hb2; refine hK.out _ _ (fun _ => hBe) ?_; (try simp only [Act.put, List.setIfInBounds_toArray, List.set_cons_zero, List.set_cons_succ]); clear hK K)
          repeat (first | (apply ot_tk rfl (by rfl) (by rfl) (by rfl); (focus (intro wx hSw; have r0 := (hSw.cell (p := ⟨w.heap.size, 0, none⟩) hszW).trans q0; have r1 := (hSw.cell (p := ⟨w.heap.size, 1, none⟩) hszW).trans q1; have r2 := (hSw.cell (p := ⟨w.heap.size, 2, none⟩) hszW).trans q2; have r3 := (hSw.cell (p := ⟨w.heap.size + 1, 0, none⟩) hszN).trans p0; have r4 := (hSw.cell (p := ⟨w.heap.size + 1, 1, none⟩) hszN).trans p1; have r5 := (hSw.cell (p := ⟨w.heap.size + 1, 2, none⟩) hszN).trans p2; go_simp; (try with_reducible rfl))); (try simp only [Act.put, List.setIfInBounds_toArray, List.set_cons_zero, List.set_cons_succ])) | (apply ot_skip rfl (by rfl) (by rfl) (fun _ => hBe); (try simp only [Act.put, List.setIfInBounds_toArray, List.set_cons_zero, List.set_cons_succ])))
          (refine ot_do rfl (by rfl) (by rfl) (fun K hK => ?_); go_simp; refine (him.out _ _ _ _ _ _ _ _ _ _ _ _ _ t1 t2 t3 t4 hn hn' jn jn').mono ?_; rintro e wf ⟨a1, a2, rfl, ha1, ha2, hap, hb2⟩; replace ha1 := ha1.less (show W.heap.size ≤ _ from hBe.size); replace ha2 := ha2.less (show W.heap.size ≤ _ from hBe.size); (try replace bO := bO.all hb2); replace hBe := hBe.trans (hb2.mono hBe.size); clear hb2; obtain ⟨Aw1, cw1, rfl⟩ := ha1.val; obtain ⟨Aw2, cw2, rfl⟩ := ha2.val; clear t1 t2 t3 t4 hap; refine hK.out _ _ (fun _ => hBe) ?_; (try simp only [Act.put, List.setIfInBounds_toArray, List.set_cons_zero, List.set_cons_succ]); clear hK K)
          repeat (first | (apply ot_tk rfl (by rfl) (by rfl) (by rfl); (focus (intro wx hSw; have r0 := (hSw.cell (p := ⟨w.heap.size, 0, none⟩) hszW).trans q0; have r1 := (hSw.cell (p := ⟨w.heap.size, 1, none⟩) hszW).trans q1; have r2 := (hSw.cell (p := ⟨w.heap.size, 2, none⟩) hszW).trans q2; have r3 := (hSw.cell (p := ⟨w.heap.size + 1, 0, none⟩) hszN).trans p0; have r4 := (hSw.cell (p := ⟨w.heap.size + 1, 1, none⟩) hszN).trans p1; have r5 := (hSw.cell (p := ⟨w.heap.size + 1, 2, none⟩) hszN).trans p2; go_simp; (try with_reducible rfl))); (try simp only [Act.put, List.setIfInBounds_toArray, List.set_cons_zero, List.set_cons_succ])) | (apply ot_skip rfl (by rfl) (by rfl) (fun _ => hBe); (try simp only [Act.put, List.setIfInBounds_toArray, List.set_cons_zero, List.set_cons_succ])))
          have r0 := bO.cell 0
          have r1 := bO.cell 1
          have r2 := bO.cell 2
          have f0 := bO.frozen 0
          have f1 := bO.frozen 1
          have f2 := bO.frozen 2
          have hbY := put3_blk (x := .slice Aw1 ro.length cw1) (y := .int .i64 rq) (z := .slice Aw2 rv.length cw2) bO
          have hBY : Below W.heap.size W (put3 wf g (.slice Aw1 ro.length cw1) (.int .i64 rq) (.slice Aw2 rv.length cw2)) := put3_below hBe hgB
          have hy1 := put3_own (x := .slice Aw1 ro.length cw1) (y := .int .i64 rq) (z := .slice Aw2 rv.length cw2) bO (by decide) ha1
          have hy2 := put3_own (x := .slice Aw1 ro.length cw1) (y := .int .i64 rq) (z := .slice Aw2 rv.length cw2) bO (by decide) ha2
          refine ot_do rfl (by rfl) (by rfl) (fun K hK => ?_)
          go_simp
          refine hK.out _ _ (fun _ => hBY) ?_
          (try simp only [Act.put, List.setIfInBounds_toArray, List.set_cons_zero, List.set_cons_succ])
          clear hK K
          clear r0 r1 r2 f0 f1 f2
          repeat (first | (apply ot_tk rfl (by rfl) (by rfl) (by rfl); (focus (intro wx hSw; have r0 := (hSw.cell (p := ⟨w.heap.size, 0, none⟩) hszW).trans q0; have r1 := (hSw.cell (p := ⟨w.heap.size, 1, none⟩) hszW).trans q1; have r2 := (hSw.cell (p := ⟨w.heap.size, 2, none⟩) hszW).trans q2; have r3 := (hSw.cell (p := ⟨w.heap.size + 1, 0, none⟩) hszN).trans p0; have r4 := (hSw.cell (p := ⟨w.heap.size + 1, 1, none⟩) hszN).trans p1; have r5 := (hSw.cell (p := ⟨w.heap.size + 1, 2, none⟩) hszN).trans p2; go_simp; (try with_reducible rfl))); (try simp only [Act.put, List.setIfInBounds_toArray, List.set_cons_zero, List.set_cons_succ])) | (apply ot_skip rfl (by rfl) (by rfl) (fun _ => hBe); (try simp only [Act.put, List.setIfInBounds_toArray, List.set_cons_zero, List.set_cons_succ])))
          refine ot_do rfl (by rfl) (by rfl) (fun K hK => ?_)
          go_simp
          refine hK.out _ _ (fun h => absurd h (by omega)) ?_
          (try simp only [Act.put, List.setIfInBounds_toArray, List.set_cons_zero, List.set_cons_succ])
          clear hK K
          refine ot_nil ?_
          go_wp2_with fail
          go_meet
          exact ⟨g, Aw1, cw1, Aw2, cw2, rfl, rfl, hbY, hy1, hy2, hBY⟩
      · skip
        (refine ot_do rfl (by rfl) (by rfl) (fun K hK => ?_); go_simp; obtain ⟨wa, g, hg, hwa, hBa, hsub, bO, hgB⟩ := be_alloc hBe 28 #[.slice none 0 0, .int .i64 0, .slice none 0 0]; rw [hwa, hg]; clear hwa hg; (try replace t1 := (t1.below hsub).more hsub.size); (try replace t2 := (t2.below hsub).more hsub.size); (try replace t3 := (t3.below hsub).more hsub.size); (try replace t4 := (t4.below hsub).more hsub.size); (try replace ha1 := ha1.below hsub); (try replace ha2 := ha2.below hsub); clear hBe hsub; have hBe := hBa; clear hBa; refine hK.out _ _ (fun _ => hBe) ?_; (try simp only [Act.put, List.setIfInBounds_toArray, List.set_cons_zero, List.set_cons_succ]); clear hK K)
        repeat (first | (apply ot_tk rfl (by rfl) (by rfl) (by rfl); (focus (intro wx hSw; have r0 := (hSw.cell (p := ⟨w.heap.size, 0, none⟩) hszW).trans q0; have r1 := (hSw.cell (p := ⟨w.heap.size, 1, none⟩) hszW).trans q1; have r2 := (hSw.cell (p := ⟨w.heap.size, 2, none⟩) hszW).trans q2; have r3 := (hSw.cell (p := ⟨w.heap.size + 1, 0, none⟩) hszN).trans p0; have r4 := (hSw.cell (p := ⟨w.heap.size + 1, 1, none⟩) hszN).trans p1; have r5 := (hSw.cell (p := ⟨w.heap.size + 1, 2, none⟩) hszN).trans p2; go_simp; (try with_reducible rfl))); (try simp only [Act.put, List.setIfInBounds_toArray, List.set_cons_zero, List.set_cons_succ])) | (apply ot_skip rfl (by rfl) (by rfl) (fun _ => hBe); (try simp only [Act.put, List.setIfInBounds_toArray, List.set_cons_zero, List.set_cons_succ])))
        (refine ot_do rfl (by rfl) (by rfl) (fun K hK => ?_); go_simp; refine (toMetric_any _ w.heap.size _ _ _ _ _ _ _ _ _ (hsl hBe) (hsl' hBe) (by have := hBe.size; omega) hn hn').mono ?_; rintro e wm ⟨C1, e1, C2, e2, rfl, t1, t2, hb2⟩; (try replace bO := bO.all hb2); replace hBe := hBe.trans (hb2.mono hBe.size); clear hb2; refine hK.out _ _ (fun _ => hBe) ?_; (try simp only [Act.put, List.setIfInBounds_toArray, List.set_cons_zero, List.set_cons_succ]); clear hK K)
        repeat (first | (apply ot_tk rfl (by rfl) (by rfl) (by rfl); (focus (intro wx hSw; have r0 := (hSw.cell (p := ⟨w.heap.size, 0, none⟩) hszW).trans q0; have r1 := (hSw.cell (p := ⟨w.heap.size, 1, none⟩) hszW).trans q1; have r2 := (hSw.cell (p := ⟨w.heap.size, 2, none⟩) hszW).trans q2; have r3 := (hSw.cell (p := ⟨w.heap.size + 1, 0, none⟩) hszN).trans p0; have r4 := (hSw.cell (p := ⟨w.heap.size + 1, 1, none⟩) hszN).trans p1; have r5 := (hSw.cell (p := ⟨w.heap.size + 1, 2, none⟩) hszN).trans p2; go_simp; (try with_reducible rfl))); (try simp only [Act.put, List.setIfInBounds_toArray, List.set_cons_zero, List.set_cons_succ])) | (apply ot_skip rfl (by rfl) (by rfl) (fun _ => hBe); (try simp only [Act.put, List.setIfInBounds_toArray, List.set_cons_zero, List.set_cons_succ])))
        (refine ot_do rfl (by rfl) (by rfl) (fun K hK => ?_); go_simp; refine (toMetric_any _ w.heap.size _ _ _ _ _ _ _ _ _ (jsl hBe) (jsl' hBe) (by have := hBe.size; omega) jn jn').mono ?_; rintro e wn ⟨C3, e3, C4, e4, rfl, t3, t4, hb2⟩; (try replace bO := bO.all hb2); replace t1 := (t1.below hb2).more hb2.size; replace t2 := (t2.below hb2).more hb2.size; replace hBe := hBe.trans (hb2.mono hBe.size); clear hb2; refine hK.out _ _ (fun _ => hBe) ?_; (try simp only [Act.put, List.setIfInBounds_toArray, List.set_cons_zero, List.set_cons_succ]); clear hK K)
        repeat (first | (apply ot_tk rfl (by rfl) (by rfl) (by rfl); (focus (intro wx hSw; have r0 := (hSw.cell (p := ⟨w.heap.size, 0, none⟩) hszW).trans q0; have r1 := (hSw.cell (p := ⟨w.heap.size, 1, none⟩) hszW).trans q1; have r2 := (hSw.cell (p := ⟨w.heap.size, 2, none⟩) hszW).trans q2; have r3 := (hSw.cell (p := ⟨w.heap.size + 1, 0, none⟩) hszN).trans p0; have r4 := (hSw.cell (p := ⟨w.heap.size + 1, 1, none⟩) hszN).trans p1; have r5 := (hSw.cell (p := ⟨w.heap.size + 1, 2, none⟩) hszN).trans p2; go_simp; (try with_reducible rfl))); (try simp only [Act.put, List.setIfInBounds_toArray, List.set_cons_zero, List.set_cons_succ])) | (apply ot_skip rfl (by rfl) (by rfl) (fun _ => hBe); (try simp only [Act.put, List.setIfInBounds_toArray, List.set_cons_zero, List.set_cons_succ])))
        (refine ot_do rfl (by rfl) (by rfl) (fun K hK => ?_); go_simp; refine (him.out _ _ _ _ _ _ _ _ _ _ _ _ _ t1 t2 t3 t4 hn hn' jn jn').mono ?_; rintro e wf ⟨a1, a2, rfl, ha1, ha2, hap, hb2⟩; replace ha1 := ha1.less (show W.heap.size ≤ _ from hBe.size); replace ha2 := ha2.less (show W.heap.size ≤ _ from hBe.size); (try replace bO := bO.all hb2); replace hBe := hBe.trans (hb2.mono hBe.size); clear hb2; obtain ⟨Aw1, cw1, rfl⟩ := ha1.val; obtain ⟨Aw2, cw2, rfl⟩ := ha2.val; clear t1 t2 t3 t4 hap; refine hK.out _ _ (fun _ => hBe) ?_; (try simp only [Act.put, List.setIfInBounds_toArray, List.set_cons_zero, List.set_cons_succ]); clear hK K)
        repeat (first | (apply ot_tk rfl (by rfl) (by rfl) (by rfl); (focus (intro wx hSw; have r0 := (hSw.cell (p := ⟨w.heap.size, 0, none⟩) hszW).trans q0; have r1 := (hSw.cell (p := ⟨w.heap.size, 1, none⟩) hszW).trans q1; have r2 := (hSw.cell (p := ⟨w.heap.size, 2, none⟩) hszW).trans q2; have r3 := (hSw.cell (p := ⟨w.heap.size + 1, 0, none⟩) hszN).trans p0; have r4 := (hSw.cell (p := ⟨w.heap.size + 1, 1, none⟩) hszN).trans p1; have r5 := (hSw.cell (p := ⟨w.heap.size + 1, 2, none⟩) hszN).trans p2; go_simp; (try with_reducible rfl))); (try simp only [Act.put, List.setIfInBounds_toArray, List.set_cons_zero, List.set_cons_succ])) | (apply ot_skip rfl (by rfl) (by rfl) (fun _ => hBe); (try simp only [Act.put, List.setIfInBounds_toArray, List.set_cons_zero, List.set_cons_succ])))
        have r0 := bO.cell 0
        have r1 := bO.cell 1
        have r2 := bO.cell 2
        have f0 := bO.frozen 0
        have f1 := bO.frozen 1
        have f2 := bO.frozen 2
        have hbY := put3_blk (x := .slice Aw1 ro.length cw1) (y := .int .i64 rq) (z := .slice Aw2 rv.length cw2) bO
        have hBY : Below W.heap.size W (put3 wf g (.slice Aw1 ro.length cw1) (.int .i64 rq) (.slice Aw2 rv.length cw2)) := put3_below hBe hgB
        have hy1 := put3_own (x := .slice Aw1 ro.length cw1) (y := .int .i64 rq) (z := .slice Aw2 rv.length cw2) bO (by decide) ha1
        have hy2 := put3_own (x := .slice Aw1 ro.length cw1) (y := .int .i64 rq) (z := .slice Aw2 rv.length cw2) bO (by decide) ha2
        refine ot_do rfl (by rfl) (by rfl) (fun K hK => ?_)
        go_simp
        refine hK.out _ _ (fun _ => hBY) ?_
        (try simp only [Act.put, List.setIfInBounds_toArray, List.set_cons_zero, List.set_cons_succ])
        clear hK K
        clear r0 r1 r2 f0 f1 f2
        repeat (first | (apply ot_tk rfl (by rfl) (by rfl) (by rfl); (focus (intro wx hSw; have r0 := (hSw.cell (p := ⟨w.heap.size, 0, none⟩) hszW).trans q0; have r1 := (hSw.cell (p := ⟨w.heap.size, 1, none⟩) hszW).trans q1; have r2 := (hSw.cell (p := ⟨w.heap.size, 2, none⟩) hszW).trans q2; have r3 := (hSw.cell (p := ⟨w.heap.size + 1, 0, none⟩) hszN).trans p0; have r4 := (hSw.cell (p := ⟨w.heap.size + 1, 1, none⟩) hszN).trans p1; have r5 := (hSw.cell (p := ⟨w.heap.size + 1, 2, none⟩) hszN).trans p2; go_simp; (try with_reducible rfl))); (try simp only [Act.put, List.setIfInBounds_toArray, List.set_cons_zero, List.set_cons_succ])) | (apply ot_skip rfl (by rfl) (by rfl) (fun _ => hBe); (try simp only [Act.put, List.setIfInBounds_toArray, List.set_cons_zero, List.set_cons_succ])))
        refine ot_do rfl (by rfl) (by rfl) (fun K hK => ?_)
        go_simp
        refine hK.out _ _ (fun h => absurd h (by omega)) ?_
        (try simp only [Act.put, List.setIfInBounds_toArray, List.set_cons_zero, List.set_cons_succ])
        clear hK K
        refine ot_nil ?_
        go_wp2_with fail
        go_meet
        exact ⟨g, Aw1, cw1, Aw2, cw2, rfl, rfl, hbY, hy1, hy2, hBY⟩
    case rest =>
      obtain ⟨U, H1, dh1, H2, dh2, rfl, rfl, bU, hh1, hh2, hb14⟩ := hcut
      replace kk := kk.trans (hb14.mono kk.size)
      (try replace ha1 := ha1.below hb14)
      (try replace ha2 := ha2.below hb14)
      (try replace hx1 := hx1.below hb14)
      (try replace hx2 := hx2.below hb14)
      (try replace hv1 := hv1.below hb14)
      (try replace hv2 := hv2.below hb14)
      (try replace hg1 := hg1.below hb14)
      (try replace hg2 := hg2.below hb14)
      (try replace bY := bY.all hb14)
      (try replace bX := bX.all hb14)
      (try replace bV := bV.all hb14)
      (try replace bZ := bZ.all hb14)
      (try clear hb14)
      have x0 := bU.cell 0
      have x1 := bU.cell 1
      have x2 := bU.cell 2
      have v0 := bY.cell 0
      have v1 := bY.cell 1
      have v2 := bY.cell 2
      go_wp2_with fail
      clear x0 x1 x2 v0 v1 v2
      refine (eqMetric_any _ _ _ _ _ _ _ _ _ _ _ _ _ _ _ _ _ _ _ _ (hh1.here rfl hr1.out) (hh2.here rfl hr2.out) (ha1.here rfl hr1.out) (ha2.here rfl hr2.out) (Nat.le_refl _) hl1.out hl2.out).mono ?_
      rintro e w15 ⟨rfl, hb15⟩
      simp only [beq_self_eq_true, Bool.and_self]
      replace kk := kk.trans (hb15.mono kk.size)
      (try replace ha1 := ha1.below hb15)
      (try replace ha2 := ha2.below hb15)
      (try replace hx1 := hx1.below hb15)
      (try replace hx2 := hx2.below hb15)
      (try replace hv1 := hv1.below hb15)
      (try replace hv2 := hv2.below hb15)
      (try replace hg1 := hg1.below hb15)
      (try replace hg2 := hg2.below hb15)
      (try replace bY := bY.all hb15)
      (try replace bX := bX.all hb15)
      (try replace bV := bV.all hb15)
      (try replace bZ := bZ.all hb15)
      (try clear hb15)
      have v0 := bZ.cell 0
      have v1 := bZ.cell 1
      have v2 := bZ.cell 2
      go_wp2_with fail
      clear v0 v1 v2
      refine (heldMetric_any _ _ _ _ _ _ _ _ _ 1 _ _ (hg1.here (marks_length _ _) (marks_rng _ _ (by omega) (by omega) hL1)) (hg2.here (marks_length _ _) (marks_rng _ _ (by omega) (by omega) hL2)) (Nat.le_refl _) hL1 hL2 (by omega) (by omega)).mono ?_
      rintro e w16 ⟨rfl, hb16⟩
      rw [HMK.out]
      replace kk := kk.trans (hb16.mono kk.size)
      go_wp2_with fail
      go_ret
      exact ⟨rfl, hbW.trans (kk.mono (Nat.le_of_lt hszW))⟩
end Go.Proofs.Ytmnljlefjafcdaa
