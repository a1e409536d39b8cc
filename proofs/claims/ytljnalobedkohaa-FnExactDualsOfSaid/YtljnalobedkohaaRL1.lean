
/- The walks of szRing, toRing, eqRing, markRing; of the law IsRing. -/
import Derived.Test.YtljnalobedkohaaRI5
import Derived.Test.YtljnalobedkohaaOpN
namespace Go.Proofs.Ytljnalobedkohaa
open Go Go.RowKit
set_option linter.unusedSimpArgs false
set_option linter.unusedVariables false
set_option maxRecDepth 100000

theorem szRing_any (w : World) (A : Option Addr) (n c : Nat) (t : Tb) (l : Int) (h : Sl3 w w.heap.size A n c t) (hl : 0 ≤ l) (hl1 : l ≤ 1048576) (hb : Big3 t) :
    Calls Try.prog 8 #[.agg #[.slice A n c], .int .i64 l] w (Re w (.int .i64 (szI l (tot3 t)))) := by
  have hcall := fun W (hbW : Below w.heap.size w W) => szInt64SSS_any W w.heap.size A n c t l (h.below hbW) hl hl1 hb
  have hw : totL tot2 t = tot3 t := rfl
  rw [hw] at hcall
  clear hw
  by_cases h0 : l - (tot3 t : Int) < 0
  · rw [szI_no h0] at hcall ⊢
    have HC := hide hcall
    clear hcall
    go_enter Try.func8, Try.ntmps8
    go_wp2_with fail
    obtain ⟨W, hW⟩ : ∃ W, w.alloc (.cells #[.slice A n c] 24) = W := ⟨_, rfl⟩
    have hbW : Below w.heap.size w W := by rw [← hW]; exact (by repeat (first | assumption | exact Below.refl _ _ | apply below_drewN | apply Below.drew | apply Below.alloc | apply Below.setCell | omega | (focus (simp; done)) | (focus (simp; omega))))
    have hszW : w.heap.size < W.heap.size := by rw [← hW]; simp
    have hsW := hide (show W.heap.size = w.heap.size + 1 by rw [← hW]; simp)
    have q0 : W.cell? ⟨w.heap.size, 0, none⟩ = some (.slice A n c) := by rw [← hW]; exact (Blk.new _ _ _).cell 0
    rw [hW]
    clear hW
    refine (HC.out _ hbW).mono ?_
    rintro e w1 ⟨rfl, d, rfl⟩
    go_wp2_with fail
    go_ret
    exact ⟨rfl, below_drewN hbW _⟩
  · rw [szI_ok h0] at hcall ⊢
    obtain ⟨q, hq⟩ : ∃ q, l - (tot3 t : Int) = q := ⟨_, rfl⟩
    rw [hq] at hcall h0 ⊢
    have HC := hide hcall
    clear hcall hq
    go_enter Try.func8, Try.ntmps8
    go_wp2_with fail
    obtain ⟨W, hW⟩ : ∃ W, w.alloc (.cells #[.slice A n c] 24) = W := ⟨_, rfl⟩
    have hbW : Below w.heap.size w W := by rw [← hW]; exact (by repeat (first | assumption | exact Below.refl _ _ | apply below_drewN | apply Below.drew | apply Below.alloc | apply Below.setCell | omega | (focus (simp; done)) | (focus (simp; omega))))
    have hszW : w.heap.size < W.heap.size := by rw [← hW]; simp
    have hsW := hide (show W.heap.size = w.heap.size + 1 by rw [← hW]; simp)
    have q0 : W.cell? ⟨w.heap.size, 0, none⟩ = some (.slice A n c) := by rw [← hW]; exact (Blk.new _ _ _).cell 0
    rw [hW]
    clear hW
    refine (HC.out _ hbW).mono ?_
    rintro e w1 ⟨rfl, d, rfl⟩
    go_wp2_with fail
    go_ret
    exact ⟨rfl, below_drewN hbW _⟩
theorem sh_of_tot {t : Tb} {l : Nat} (h : tot3 t ≤ l) (hl : l ≤ 1048576) : Sh3 t := by
  unfold tot3 at h
  refine ⟨by unfold totL at h; omega, fun xs hx => ?_⟩
  have h1 := totL_mem (f := tot2) hx
  have h2 : totL List.length xs ≤ 1048576 := Nat.le_trans h1 (by omega)
  refine ⟨by unfold totL at h2; omega, fun ys hy => ?_⟩
  have h3 := totL_mem (f := List.length) hy
  omega
/-- It returned a ring of its own. -/
def MkR (w : World) (t : Tb) (e : Ending) (w' : World) : Prop := ∃ v, e = .returned (.agg #[v]) ∧ E3 w' v t (fun b => w.heap.size ≤ b ∧ b < w'.heap.size) ∧ Below w.heap.size w w'
theorem E3.mono {w : World} {v : Value} {t : Tb} {fp fq : Nat → Prop} (h : E3 w v t fp) (hf : ∀ b, fp b → fq b) (hb : ∀ b, fq b → b < w.heap.size) : E3 w v t fq := OwL.mono h hf hb
theorem E3.wr {w w' : World} {v : Value} {t : Tb} {fp fq : Nat → Prop} (h : E3 w v t fp) (hw : Wr w w' fq) (hd : ∀ b, fp b → ¬ fq b) : E3 w' v t fp := kp3 _ _ _ _ _ h (fun b hb => hw.block b (OwL.bd h b hb) (hd b hb)) hw.size
set_option maxHeartbeats 1000000 in
theorem toRing_any (w : World) (B : Nat) (A : Option Addr) (n c : Nat) (t : Tb) (h : Sl3 w B A n c t) (hB : B ≤ w.heap.size) (hs : Sh3 t) : Calls Try.prog 10 #[.agg #[.slice A n c]] w (MkR w t) := by
  obtain rfl := h.len
  go_enter Try.func10, Try.ntmps10
  go_wp2_with fail
  have hW3 : Below w.heap.size w (((w.alloc (.cells #[.slice A t.length c] 24)).alloc (.cells #[.slice none 0 0] 27)).alloc (.cells #[.slice none 0 0] 27)) := (by repeat (first | assumption | exact Below.refl _ _ | apply below_drewN | apply Below.drew | apply Below.alloc | apply Below.setCell | omega | (focus (simp; done)) | (focus (simp; omega))))
  refine (toInt64SSS_any _ _ _ _ _ ((h.below (hW3.mono hB)).more (by simp; omega)) hs.1 hs.2).mono ?_
  rintro e w1 ⟨v, rfl, he, hb1⟩
  obtain ⟨Av, cv, rfl, hsv⟩ := E3.sl3 he
  clear hsv
  have br : Blk w1 (w.heap.size + 1) 27 #[.slice none 0 0] := Blk.all ((Blk.new' _ _ _ _ (by simp)).alloc _) hb1
  have bo : Blk w1 (w.heap.size + 1 + 1) 27 #[.slice none 0 0] := Blk.all (Blk.new' _ _ _ _ (by simp)) hb1
  have hbw1 : Below w.heap.size w w1 := hW3.trans (hb1.mono (by simp; omega))
  have hsz1 := hb1.size
  simp only [World.size_alloc] at hsz1 he
  have bo2 := bo.store 0 (.slice Av t.length cv)
  have br2 := br.far (p := ⟨w.heap.size + 1 + 1, 0, none⟩) (by simp) (.slice Av t.length cv)
  have br3 := br2.store 0 (.slice Av t.length cv)
  have hbw2 := (hbw1.setCell (p := ⟨w.heap.size + 1 + 1, 0, none⟩) (by simp; omega) (.slice Av t.length cv)).setCell (p := ⟨w.heap.size + 1, 0, none⟩) (by simp) (.slice Av t.length cv)
  have z0 := bo.cell 0
  have z1 := bo.frozen 0
  have z2 := bo2.cell 0
  have z3 := br2.cell 0
  have z4 := br2.frozen 0
  have z5 := br3.cell 0
  go_wp2_with fail
  refine bodyPost_ret (v := .agg #[.slice Av t.length cv]) (by simp [results, Try.results10, go_sem, z5]) rfl ?_
  have hw1 : Wr w1 ((w1.setCell ⟨w.heap.size + 1 + 1, 0, none⟩ (.slice Av t.length cv)).setCell ⟨w.heap.size + 1, 0, none⟩ (.slice Av t.length cv)) (fun b => b < w.heap.size + 1 + 1 + 1) :=
    ⟨rfl, rfl, rfl, by simp [World.setCell], fun b hb hn => by rw [Below.heap_setCell _ _ _ _ (by simp; omega), Below.heap_setCell _ _ _ _ (by simp; omega)]⟩
  refine ⟨_, rfl, ?_, hbw2⟩
  refine E3.mono (E3.wr he hw1 fun b hb => by omega) (fun b hb => ?_) (fun b hb => hb.2)
  have e1 : ((w1.setCell ⟨w.heap.size + 1 + 1, 0, none⟩ (.slice Av t.length cv)).setCell ⟨w.heap.size + 1, 0, none⟩ (.slice Av t.length cv)).heap.size = w1.heap.size := by simp [World.setCell]
  rw [e1]
  omega
set_option maxHeartbeats 1000000 in
theorem eqRing_any (w : World) (B : Nat) (A A' : Option Addr) (n n' c c' : Nat) (x y : Tb) (h : Sl3 w B A n c x) (h' : Sl3 w B A' n' c' y) (hB : B ≤ w.heap.size) (hs : Sh3 x) :
    Calls Try.prog 12 #[.agg #[.slice A n c], .agg #[.slice A' n' c']] w (Re w (.bool (x == y))) := by
  obtain rfl := h.len
  have hcall := fun W (hW : Below w.heap.size w W) => eqInt64SSS_any W B B A A' x.length n' c c' x y (h.below (hW.mono hB)) (h'.below (hW.mono hB)) hs.1 hs.2
  obtain ⟨r, hr⟩ : ∃ r, (x == y) = r := ⟨_, rfl⟩
  rw [hr] at hcall ⊢
  have HC := hide hcall
  clear hr hcall
  cases r
  all_goals
    go_enter Try.func12, Try.ntmps12
    go_wp2_with fail
    obtain ⟨W, hW⟩ : ∃ W, (w.alloc (.cells #[.slice A x.length c] 27)).alloc (.cells #[.slice A' n' c'] 27) = W := ⟨_, rfl⟩
    have hbW : Below w.heap.size w W := by rw [← hW]; exact (by repeat (first | assumption | exact Below.refl _ _ | apply below_drewN | apply Below.drew | apply Below.alloc | apply Below.setCell | omega | (focus (simp; done)) | (focus (simp; omega))))
    rw [hW]
    clear hW
    refine (HC.out _ hbW).mono ?_
    rintro e w1 ⟨rfl, d, rfl⟩
    go_wp2_with fail
    go_ret
    exact ⟨rfl, below_drewN hbW _⟩
set_option maxHeartbeats 1000000 in
theorem markRing_any (w : World) (v : Value) (t : Tb) (fp : Nat → Prop) (q : Int) (h : E3 w v t fp) (hn : tot3 t ≤ 1048576) (hq0 : 0 ≤ q) (hq1 : q ≤ 100000000) :
    Calls Try.prog 18 #[.agg #[v], .int .i64 q] w (fun e w' => (∃ r : Int, e = .returned (.int .i64 r) ∧ r = q + sum3 t) ∧ Wr w w' fp) := by
  have hs3 := sum3_le_tot3 t
  go_enter Try.func18, Try.ntmps18
  go_wp2_with fail
  have he : E3 (w.alloc (.cells #[v] 27)) v t fp := h.below ((Below.refl _ _).alloc (Nat.le_refl _) _)
  refine (markInt64SSS_any _ v t fp q he hn hq0 hq1).mono ?_
  rintro e w1 ⟨rfl, _, hw⟩
  obtain ⟨s, hs⟩ : ∃ s, q + (sum3 t : Int) = s := ⟨_, rfl⟩
  rw [hs]
  have HS := hide hs
  clear hs
  go_wp2_with fail
  go_ret
  exact ⟨⟨s, rfl, HS.out.symm⟩, (Wr.of_below ((Below.refl _ _).alloc (Nat.le_refl _) _)).trans hw⟩

/-! ### the law IsRing -/
theorem MkR.sl {w w' : World} {t : Tb} {e : Ending} (h : MkR w t e w') : ∃ A c, e = .returned (.agg #[.slice A t.length c]) ∧ Sl3 w' w'.heap.size A t.length c t ∧ E3 w' (.slice A t.length c) t (fun b => w.heap.size ≤ b ∧ b < w'.heap.size) ∧ Below w.heap.size w w' := by
  obtain ⟨v, rfl, he, hb⟩ := h
  obtain ⟨A, c, rfl, hs⟩ := E3.sl3 he
  exact ⟨A, c, rfl, hs, he, hb⟩
set_option maxHeartbeats 1000000 in
theorem law_IsRing {w : World} (A : Option Addr) (n c : Nat) (t : Tb) (h0 : Sl3In w A n c t) : Calls Try.prog 3 #[.agg #[.slice A n c]] w (Re w (.bool true)) := by
  obtain ⟨h, hbig⟩ := h0
  obtain rfl := h.len
  have hsz := fun W (hW : Below w.heap.size w W) => szRing_any W A t.length c t 1048576 ((h.below hW).more hW.size) (by omega) (by omega) hbig
  by_cases h0 : (1048576 : Int) - (tot3 t : Int) < 0
  · rw [szI_no h0] at hsz
    have HZ := hide hsz
    clear hsz
    go_enter Try.func3, Try.ntmps3
    go_wp2_with fail
    obtain ⟨W, hW⟩ : ∃ W, w.alloc (.cells #[.slice A t.length c] 24) = W := ⟨_, rfl⟩
    have hbW : Below w.heap.size w W := by rw [← hW]; exact (by repeat (first | assumption | exact Below.refl _ _ | apply below_drewN | apply Below.drew | apply Below.alloc | apply Below.setCell | omega | (focus (simp; done)) | (focus (simp; omega))))
    have hszW : w.heap.size < W.heap.size := by rw [← hW]; simp
    have hsW := hide (show W.heap.size = w.heap.size + 1 by rw [← hW]; simp)
    have q0 : W.cell? ⟨w.heap.size, 0, none⟩ = some (.slice A t.length c) := by rw [← hW]; exact (Blk.new _ _ _).cell 0
    rw [hW]
    clear hW
    refine (HZ.out _ hbW).mono ?_
    rintro e w1 ⟨rfl, hb⟩
    go_wp2_with fail
    go_ret
    exact ⟨rfl, hbW.trans (hb.mono (Nat.le_of_lt hszW))⟩
  · have hS := sh_of_tot (t := t) (l := 1048576) (by omega) (by omega)
    rw [szI_ok h0] at hsz
    obtain ⟨q, hq⟩ : ∃ q, 1048576 - (tot3 t : Int) = q := ⟨_, rfl⟩
    rw [hq] at hsz h0
    have HZ := hide hsz
    clear hsz hq
    obtain ⟨r, hr⟩ : ∃ r, rgB t = r := ⟨_, rfl⟩
    have HR := hide hr
    clear hr
    go_enter Try.func3, Try.ntmps3
    go_wp2_with fail
    obtain ⟨W, hW⟩ : ∃ W, w.alloc (.cells #[.slice A t.length c] 24) = W := ⟨_, rfl⟩
    have hbW : Below w.heap.size w W := by rw [← hW]; exact (by repeat (first | assumption | exact Below.refl _ _ | apply below_drewN | apply Below.drew | apply Below.alloc | apply Below.setCell | omega | (focus (simp; done)) | (focus (simp; omega))))
    have hszW : w.heap.size < W.heap.size := by rw [← hW]; simp
    have hsW := hide (show W.heap.size = w.heap.size + 1 by rw [← hW]; simp)
    have q0 : W.cell? ⟨w.heap.size, 0, none⟩ = some (.slice A t.length c) := by rw [← hW]; exact (Blk.new _ _ _).cell 0
    rw [hW]
    clear hW
    refine (HZ.out _ hbW).mono ?_
    rintro e w1 ⟨rfl, hb1⟩
    have r0 := (hb1.cell (p := ⟨w.heap.size, 0, none⟩) hszW).trans q0
    have k1 := hbW.trans (hb1.mono (Nat.le_of_lt hszW))
    have z1 := Nat.lt_of_lt_of_le hszW hb1.size
    go_wp2_with fail
    clear q0
    refine (toRing_any w1 w.heap.size _ _ _ _ (h.below k1) k1.size hS).mono ?_
    intro e w2 hm
    obtain ⟨B1, d1, rfl, t1, _, hb2⟩ := hm.sl
    clear hm
    have q0 := (hb2.cell (p := ⟨w.heap.size, 0, none⟩) z1).trans r0
    have k2 := k1.trans (hb2.mono k1.size)
    have z2 := Nat.lt_of_lt_of_le z1 hb2.size
    clear r0
    go_wp2_with fail
    refine (specIsRing_any w2 _ _ _ _ t1 hS).mono ?_
    rw [HR.out]
    rintro e w3 ⟨rfl, hb3⟩
    have r0 := (hb3.cell (p := ⟨w.heap.size, 0, none⟩) z2).trans q0
    have k3 := k2.trans (hb3.mono k2.size)
    have z3 := Nat.lt_of_lt_of_le z2 hb3.size
    clear q0
    go_wp2_with fail
    refine (toRing_any w3 w.heap.size _ _ _ _ (h.below k3) k3.size hS).mono ?_
    intro e w4 hm
    obtain ⟨B3, d3, rfl, t3, _, hb4⟩ := hm.sl
    clear hm
    have q0 := (hb4.cell (p := ⟨w.heap.size, 0, none⟩) z3).trans r0
    have k4 := k3.trans (hb4.mono k3.size)
    have z4 := Nat.lt_of_lt_of_le z3 hb4.size
    clear r0
    obtain ⟨X, hX⟩ : ∃ X, w4.heap.size = X := ⟨_, rfl⟩
    go_wp2_with fail
    obtain ⟨w5, hw5⟩ : ∃ w5, w4.alloc (.cells #[.slice B3 t.length d3] 27) = w5 := ⟨_, rfl⟩
    have hb5 : Below w4.heap.size w4 w5 := by rw [← hw5]; exact (Below.refl _ _).alloc (Nat.le_refl _) _
    have bX : Blk w5 X 27 #[.slice B3 t.length d3] := by rw [← hw5]; exact Blk.new' _ _ _ _ hX
    have t5 := (t3.below hb5).more hb5.size
    have y0 := (hb5.cell (p := ⟨w.heap.size, 0, none⟩) z4).trans q0
    have k5 := k4.trans (hb5.mono k4.size)
    have z5 := Nat.lt_of_lt_of_le z4 hb5.size
    rw [hw5]
    clear hw5 t3 q0
    refine (implIsRing_any w5 _ _ _ _ t5 hS).mono ?_
    rw [HR.out]
    rintro e w6 ⟨rfl, hb6⟩
    have y0 := (hb6.cell (p := ⟨w.heap.size, 0, none⟩) z5).trans y0
    have hwl := Nat.lt_of_lt_of_le z5 hb6.size
    have bX6 := bX.all hb6
    have x0 := bX6.cell 0
    have hXl := bX6.lt
    have t6 := (t5.below hb6).more hb6.size
    have k6 := k5.trans (hb6.mono k5.size)
    go_wp2_with fail
    refine wp_region_be [0, 1, 2, 3, 4] 5 w6.heap.size w6 (by kernel_rfl) (by kernel_rfl) (by kernel_rfl) (fun _ _ _ _ _ h => h) (Below.refl _ _) (fun wd hBe => ?_)
    repeat (first | (apply ord_tk rfl (by rfl) (by rfl) (by rfl); (focus (intro wx hSw; have r0 := (hSw.cell (p := ⟨w.heap.size, 0, none⟩) hwl).trans y0; have r3 := (hSw.cell (p := ⟨X, 0, none⟩) hXl).trans x0; go_simp; (try with_reducible rfl))); (try simp only [Act.put, List.setIfInBounds_toArray, List.set_cons_zero, List.set_cons_succ])) | (apply ord_skip rfl (by rfl) (by rfl) (fun _ => hBe); (try simp only [Act.put, List.setIfInBounds_toArray, List.set_cons_zero, List.set_cons_succ])))
    refine ord_do rfl (by rfl) (by rfl) (fun K hK => ?_)
    go_simp
    refine (toRing_any _ w.heap.size _ _ _ _ (h.below (k6.trans (hBe.mono k6.size))) (Nat.le_trans k6.size hBe.size) hS).mono ?_
    intro e w7 hm
    obtain ⟨B5, d5, rfl, t7, _, hb7⟩ := hm.sl
    clear hm
    replace hBe := hBe.trans (hb7.mono hBe.size)
    refine hK.out _ _ (fun _ => hBe) ?_
    (try simp only [Act.put, List.setIfInBounds_toArray, List.set_cons_zero, List.set_cons_succ])
    clear hK K
    repeat (first | (apply ord_tk rfl (by rfl) (by rfl) (by rfl); (focus (intro wx hSw; have r0 := (hSw.cell (p := ⟨w.heap.size, 0, none⟩) hwl).trans y0; have r3 := (hSw.cell (p := ⟨X, 0, none⟩) hXl).trans x0; go_simp; (try with_reducible rfl))); (try simp only [Act.put, List.setIfInBounds_toArray, List.set_cons_zero, List.set_cons_succ])) | (apply ord_skip rfl (by rfl) (by rfl) (fun _ => hBe); (try simp only [Act.put, List.setIfInBounds_toArray, List.set_cons_zero, List.set_cons_succ])))
    have hz6 := hBe.size
    refine ord_do rfl (by rfl) (by rfl) (fun K hK => ?_)
    go_simp
    refine (eqRing_any _ _ _ _ _ _ _ _ _ _ ((t6.below hBe).more hz6) t7 (Nat.le_refl _) hS).mono ?_
    rintro e wd' ⟨rfl, hwd⟩
    replace hBe := hBe.trans (hwd.mono hBe.size)
    clear hwd
    refine hK.out _ _ (fun _ => hBe) ?_
    (try simp only [Act.put, List.setIfInBounds_toArray, List.set_cons_zero, List.set_cons_succ])
    clear hK K
    simp only [beq_self_eq_true]
    repeat (first | (apply ord_tk rfl (by rfl) (by rfl) (by rfl); (focus (intro wx hSw; have r0 := (hSw.cell (p := ⟨w.heap.size, 0, none⟩) hwl).trans y0; have r3 := (hSw.cell (p := ⟨X, 0, none⟩) hXl).trans x0; go_simp; (try with_reducible rfl))); (try simp only [Act.put, List.setIfInBounds_toArray, List.set_cons_zero, List.set_cons_succ])) | (apply ord_skip rfl (by rfl) (by rfl) (fun _ => hBe); (try simp only [Act.put, List.setIfInBounds_toArray, List.set_cons_zero, List.set_cons_succ])))
    refine ord_nil ?_
    go_wp2
    go_ret
    exact ⟨rfl, k6.trans (hBe.mono k6.size)⟩
end Go.Proofs.Ytljnalobedkohaa
