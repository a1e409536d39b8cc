
/- The walks of allWithin, isGroup. The walks of Metric.size, plus, minus, pair. The walk of Metric.pair. -/
import Derived.Test.YtonehmjoolflfaaGreatDoorSa
import Derived.Test.YtonehmjoolflfaaGreatDoorGa
import Derived.Test.YtonehmjoolflfaaGreatDoorBa
import Derived.WalkLawsBesides
namespace Go.Proofs.YtonehmjoolflfaaGreatDoor
open Go Go.RowKit Grp
set_option linter.unusedSimpArgs false
set_option linter.unusedVariables false

theorem gsL_min (r : List Int) : ∀ s : Int, 1 ≤ s → (∀ m ∈ r, 2 ≤ m ∧ m ≤ 16) → gsL (min 17 s) r = min 17 (s * prodL r) := by
  induction r with
  | nil => intro s _ _; simp [gsL, prodL]
  | cons m r ih =>
    intro s hs h
    have hm := h m (by simp)
    have e1 : s * 2 ≤ s * m := Int.mul_le_mul_of_nonneg_left hm.1 (by omega)
    have e2 : min 17 (min 17 s * min m 17) = min 17 (s * m) := by
      rw [show min m 17 = m by omega]
      by_cases h17 : s ≤ 17
      · rw [show min 17 s = s by omega]
      · rw [show min 17 s = 17 by omega]
        omega
    unfold gsL
    rw [if_neg (by omega), e2, ih (s * m) (by omega) (fun k hk => h k (by simp [hk]))]
    simp only [prodL, Int.mul_assoc]
theorem isGroup_eq (xs : List Int) : okG xs = (decide (xs.length ≤ 4) && allIn 2 16 xs && inB (gsz xs) 2 16) := by
  by_cases h4 : xs.length ≤ 4
  · by_cases ha : allIn 2 16 xs = true
    · have hr : ∀ m ∈ xs, 2 ≤ m ∧ m ≤ 16 := fun m hm => by
        have := List.all_eq_true.1 ha m hm
        simpa [inB] using this
      cases xs with
      | nil => decide
      | cons m r =>
        have hg : gsz (m :: r) = min 17 (prodL (m :: r)) := by
          unfold gsz
          rw [if_neg (by simp)]
          have := gsL_min (m :: r) 1 (by omega) hr
          rw [show min (17 : Int) 1 = 1 by omega] at this
          rw [this, Int.one_mul]
        have h2 : 2 ≤ prodL (m :: r) := by
          have h1 : 1 ≤ prodL r := prodL_pos (fun k hk => by have := hr k (by simp [hk]); omega)
          have := (hr m (by simp)).1
          have : 2 * 1 ≤ m * prodL r := Int.mul_le_mul this h1 (by omega) (by omega)
          simp only [prodL]; omega
        rw [ha, hg, okG_end (by simp) h4 hr]
        simp only [h4, decide_true, Bool.true_and, inB]
        exact decide_eq_decide.2 (by omega)
    · rw [show allIn 2 16 xs = false by simpa using ha]
      rw [Bool.and_false, Bool.false_and]
      refine Bool.eq_false_iff.2 fun hb => ha ?_
      have := okG_iff.1 hb
      exact allIn_t fun k hk => inB_t (this.m2 _ (gi_mem hk)) (this.m16 _ (gi_mem hk))
  · rw [okG_len (by omega)]; simp [h4]

theorem isGroup_any (w : World) (B : Nat) (A : Option Addr) (n c : Nat) (xs : List Int) (h : Sl w B A n c xs) (hB : B ≤ w.heap.size) (hn : n ≤ 1073741824) :
    Calls Tryz.prog 53 #[.slice A n c] w (Re w (.bool (okG xs))) := by
  obtain rfl := h.len
  have hE := hide (isGroup_eq xs)
  by_cases h4 : xs.length ≤ 4
  case neg =>
    go_enter Tryz.func53, Tryz.ntmps53
    go_wp2_with fail
    go_ret
    exact ⟨by rw [hE.out]; simp [h4], (by repeat (first | assumption | exact Below.refl _ _ | apply below_drewN | apply Below.drew | apply Below.alloc | apply Below.setCell | omega | (focus (simp; done)) | (focus (simp; omega))))⟩
  by_cases ha : allIn 2 16 xs = true
  case neg =>
    have ha' : allIn 2 16 xs = false := by simpa using ha
    have hA := hide ha'
    clear ha ha'
    go_enter Tryz.func53, Tryz.ntmps53
    go_wp2_with fail
    refine (allWithin_any _ _ _ _ _ _ _ _ (h.below (by repeat (first | assumption | exact Below.refl _ _ | apply below_drewN | apply Below.drew | apply Below.alloc | apply Below.setCell | omega | (focus (simp; done)) | (focus (simp; omega))))) hB hn).mono ?_
    rintro e w' ⟨rfl, hb⟩
    rw [hA.out]
    go_wp2_with fail
    go_ret
    exact ⟨by rw [hE.out, hA.out]; simp, hb⟩
  have hA := hide ha
  clear ha
  go_enter Tryz.func53, Tryz.ntmps53
  go_wp2_with fail
  refine (allWithin_any _ _ _ _ _ _ _ _ (h.below (by repeat (first | assumption | exact Below.refl _ _ | apply below_drewN | apply Below.drew | apply Below.alloc | apply Below.setCell | omega | (focus (simp; done)) | (focus (simp; omega))))) hB hn).mono ?_
  rintro e w' ⟨rfl, hb⟩
  rw [hA.out]
  go_wp2_with fail
  refine (groupSize_any _ _ _ _ _ _ (h.below (hb.mono hB)) hn).mono ?_
  rintro e w' ⟨rfl, m, rfl⟩
  go_wp2_with fail
  refine (within_any _ _ _ _).mono ?_
  rintro e w' ⟨rfl, m, rfl⟩
  go_wp2_with fail
  go_ret
  exact ⟨by rw [hE.out, hA.out]; simp [h4], (by repeat (first | assumption | exact Below.refl _ _ | apply below_drewN | apply Below.drew | apply Below.alloc | apply Below.setCell | omega | (focus (simp; done)) | (focus (simp; omega))))⟩

theorem size_any (w : World) (o d : Value) (A : Option Addr) (n c : Nat) : Calls Tryz.prog 55 #[.agg #[o, d, .slice A n c]] w (Re w (.int .i64 n)) := by
  go_enter Tryz.func55, Tryz.ntmps55
  go_wp2
  go_ret
  exact ⟨rfl, (by repeat (first | assumption | exact Below.refl _ _ | apply below_drewN | apply Below.drew | apply Below.alloc | apply Below.setCell | omega | (focus (simp; done)) | (focus (simp; omega))))⟩
theorem plus_any (w : World) (d v : Value) (A : Option Addr) (n c : Nat) (os : List Int) (x y : Int) (h : Sl w w.heap.size A n c os) (hG : OkG os) (x0 : 0 ≤ x) (x1 : x ≤ 1000000) (y0 : 0 ≤ y) (y1 : y ≤ 1000000) :
    Calls Tryz.prog 71 #[.agg #[.slice A n c, d, v], .int .i64 x, .int .i64 y] w (Re w (.int .i64 (Ar os x y))) := by
  go_enter Tryz.func71, Tryz.ntmps71
  go_wp2_with fail
  refine (addElements_any _ _ _ _ _ _ _ hG x0 x1 y0 y1 ((h.below (by repeat (first | assumption | exact Below.refl _ _ | apply below_drewN | apply Below.drew | apply Below.alloc | apply Below.setCell | omega | (focus (simp; done)) | (focus (simp; omega))))).more (by simp))).mono ?_
  rintro e w' ⟨rfl, hb⟩
  go_wp2
  go_ret
  exact ⟨rfl, Below.trans (by repeat (first | assumption | exact Below.refl _ _ | apply below_drewN | apply Below.drew | apply Below.alloc | apply Below.setCell | omega | (focus (simp; done)) | (focus (simp; omega)))) (hb.mono (by simp))⟩
theorem minus_any (w : World) (d v : Value) (A : Option Addr) (n c : Nat) (os : List Int) (x : Int) (h : Sl w w.heap.size A n c os) (hG : OkG os) (x0 : 0 ≤ x) (x1 : x ≤ 1000000) (A' : Option Addr) (n' c' : Nat) (hv : v = .slice A' n' c') (D : Int) (hd : d = .int .i64 D) :
    Calls Tryz.prog 90 #[.agg #[.slice A n c, d, v], .int .i64 x] w (Re w (.int .i64 (Ng os x))) := by
  subst hv
  subst hd
  have hr := Ng_rng hG x
  have hN := Ar_neg hG x
  have hU := fun y h0 h1 he => Ng_unique hG (x := x) (y := y) h0 h1 he
  have hp := hG.p16
  obtain ⟨g, hg⟩ : ∃ g : Nat, Ng os x = (g : Int) := ⟨(Ng os x).toNat, by omega⟩
  have hg16 : g < 16 := by omega
  have hNN := hide hN
  have hUU := hide hU
  have hGG := hide hg
  clear hN hU
  go_enter Tryz.func90, Tryz.ntmps90
  go_wp2_with fail
  obtain ⟨W, hW⟩ : ∃ W, w.alloc (.cells #[.slice A n c, .int .i64 D, .slice A' n' c'] 26) = W := ⟨_, rfl⟩
  have hbW : Below w.heap.size w W := by rw [← hW]; exact (by repeat (first | assumption | exact Below.refl _ _ | apply below_drewN | apply Below.drew | apply Below.alloc | apply Below.setCell | omega | (focus (simp; done)) | (focus (simp; omega))))
  have hszW : w.heap.size < W.heap.size := by rw [← hW]; simp
  have q0 : W.cell? ⟨w.heap.size, 0, none⟩ = some (.slice A n c) := by rw [← hW]; exact (Blk.new _ _ _).cell 0
  have q1 : W.cell? ⟨w.heap.size, 1, none⟩ = some (.int .i64 D) := by rw [← hW]; exact (Blk.new _ _ _).cell 1
  have q2 : W.cell? ⟨w.heap.size, 2, none⟩ = some (.slice A' n' c') := by rw [← hW]; exact (Blk.new _ _ _).cell 2
  rw [hW]
  clear hW
  have hs := h.below hbW
  go_loopw [5] (fun i wr => ∃ k : Nat, k ≤ g ∧ i = .int .i64 k ∧ Below W.heap.size W wr) (fun i _ => 17 - (intOf i).toNat)
  case atStart => exact ⟨0, by omega, rfl, Below.refl _ _⟩
  case round =>
    obtain ⟨k, hk, rfl, hBe⟩ := hrel
    have r0 := (hBe.cell (p := ⟨w.heap.size, 0, none⟩) hszW).trans q0
    have r1 := (hBe.cell (p := ⟨w.heap.size, 1, none⟩) hszW).trans q1
    have r2 := (hBe.cell (p := ⟨w.heap.size, 2, none⟩) hszW).trans q2
    go_wp2_with fail
    refine (plus_any _ _ _ _ _ _ _ _ _ ((hs.below (hBe.mono (Nat.le_of_lt hszW))).more (by have := hBe.size; omega)) hG x0 x1 (by omega) (by omega)).mono ?_
    rintro e w2 ⟨rfl, hb2⟩
    have hBe2 := hBe.trans (hb2.mono hBe.size)
    by_cases hz : Ar os x k = 0
    · have hzb : (Ar os x k != 0) = false := by simpa using hz
      have hkg : (k : Int) = Ng os x := hUU.out k (by omega) (by omega) hz
      have hK := hide hkg
      clear hkg hz
      go_wp2_with fail
      go_ret
      exact ⟨by rw [← hK.out]; rfl, hbW.trans (hBe2.mono (Nat.le_of_lt hszW))⟩
    · have hzb : (Ar os x k != 0) = true := by simpa using hz
      have hkg : k ≠ g := fun e => hz (by rw [e, ← hGG.out]; exact hNN.out)
      clear hz
      go_wp2_with fail
      go_roundw
      case rel => exact ⟨k + 1, by omega, by go_num, hBe2⟩
      case measure => simp [intOf] <;> omega

set_option maxHeartbeats 1000000 in
theorem pair_any (w : World) (A : Option Addr) (n c : Nat) (os : List Int) (D : Int) (A' : Option Addr) (n' c' : Nat) (vs : List Int) (x y : Nat)
    (h : Sl w w.heap.size A n c os) (h' : Sl w w.heap.size A' n' c' vs) (hM : OkM os D vs) (hx : (x : Int) < prodL os) (hy : (y : Int) < prodL os) :
    Calls Tryz.prog 91 #[.agg #[.slice A n c, .int .i64 D, .slice A' n' c'], .int .i64 x, .int .i64 y] w (Re w (.int .i64 (Pr os D vs x y))) := by
  obtain rfl := h'.len
  have hG := hM.g
  have hp16 := hM.g.p16
  have d1 := hM.d1
  have d2 := hM.d2
  obtain ⟨z, hz⟩ : ∃ z : Nat, Ar os x y = (z : Int) := ⟨(Ar os x y).toNat, by have := Ar_rng hM.g x y; omega⟩
  have hzl : (z : Int) < prodL os := by have := Ar_rng hM.g x y; omega
  obtain ⟨lx, vx0, vx1⟩ := hM.vl hx
  obtain ⟨ly, vy0, vy1⟩ := hM.vl hy
  obtain ⟨lz, vz0, vz1⟩ := hM.vl hzl
  obtain ⟨b, off, rfl, hb, hc⟩ := h'.at_ (by omega)
  have hP : Pr os D vs x y = (gi vs z - gi vs x - gi vs y) % D := by unfold Pr Vl; rw [hz]; rfl
  have hPP := hide hP
  have hZ := hide hz
  clear hP
  obtain ⟨vx, ex⟩ : ∃ vx, gi vs x = vx := ⟨_, rfl⟩
  obtain ⟨vy, ey⟩ : ∃ vy, gi vs y = vy := ⟨_, rfl⟩
  obtain ⟨vz, ez⟩ : ∃ vz, gi vs z = vz := ⟨_, rfl⟩
  have c1 := hc x lx
  have c2 := hc y ly
  have c3 := hc z lz
  clear hc
  rw [ex] at c1 vx0 vx1 hPP
  rw [ey] at c2 vy0 vy1 hPP
  rw [ez] at c3 vz0 vz1 hPP
  clear ex ey ez
  have t1 : IntKind.i64.wrap (vz - vx) = vz - vx := wrap_in (by omega) (by omega)
  have t2 : IntKind.i64.wrap (vz - vx - vy) = vz - vx - vy := wrap_in (by omega) (by omega)
  go_enter Tryz.func91, Tryz.ntmps91
  go_wp2
  obtain ⟨W, hW⟩ : ∃ W, w.alloc (.cells #[.slice A n c, .int .i64 D, .slice (some ⟨b, off, none⟩) vs.length c'] 26) = W := ⟨_, rfl⟩
  have hbW : Below w.heap.size w W := by rw [← hW]; exact (by repeat (first | assumption | exact Below.refl _ _ | apply below_drewN | apply Below.drew | apply Below.alloc | apply Below.setCell | omega | (focus (simp; done)) | (focus (simp; omega))))
  have hszW : w.heap.size < W.heap.size := by rw [← hW]; simp
  have q0 : W.cell? ⟨w.heap.size, 0, none⟩ = some (.slice A n c) := by rw [← hW]; exact (Blk.new _ _ _).cell 0
  have q1 : W.cell? ⟨w.heap.size, 1, none⟩ = some (.int .i64 D) := by rw [← hW]; exact (Blk.new _ _ _).cell 1
  have q2 : W.cell? ⟨w.heap.size, 2, none⟩ = some (.slice (some ⟨b, off, none⟩) vs.length c') := by rw [← hW]; exact (Blk.new _ _ _).cell 2
  rw [hW]
  clear hW
  have hbG : b < W.heap.size := by omega
  have c1 := (hbW.cell (p := ⟨b, off + x, none⟩) hb).trans c1
  have c2 := (hbW.cell (p := ⟨b, off + y, none⟩) hb).trans c2
  have c3 := (hbW.cell (p := ⟨b, off + z, none⟩) hb).trans c3
  have hs := h.below hbW
  have hsl : ∀ wd, Below W.heap.size W wd → Sl wd wd.heap.size A n c os := fun wd h => (hs.below (h.mono (Nat.le_of_lt hszW))).more (by have := h.size; omega)
  refine wp_region_be [0, 1, 2, 3, 4, 5, 9, 10, 11, 12, 13, 15, 16, 17, 18, 19, 6, 7, 8, 14, 20, 21, 22] 22 W.heap.size W (by kernel_rfl) (by kernel_rfl) (by kernel_rfl) (fun _ _ _ _ _ h => h) (Below.refl _ _) (fun wd hBe => ?_)
  repeat (first | (apply ord_tk rfl (by rfl) (by rfl) (by rfl); (focus (intro wx hSw; have r0 := (hSw.cell (p := ⟨w.heap.size, 0, none⟩) hszW).trans q0; have r1 := (hSw.cell (p := ⟨w.heap.size, 1, none⟩) hszW).trans q1; have r2 := (hSw.cell (p := ⟨w.heap.size, 2, none⟩) hszW).trans q2; have r3 := (hSw.cell (p := ⟨b, off + x, none⟩) hbG).trans c1; have r4 := (hSw.cell (p := ⟨b, off + y, none⟩) hbG).trans c2; have r5 := (hSw.cell (p := ⟨b, off + z, none⟩) hbG).trans c3; go_simp; (try with_reducible rfl))); (try simp only [Act.put, List.setIfInBounds_toArray, List.set_cons_zero, List.set_cons_succ])) | (apply ord_skip rfl (by rfl) (by rfl) (fun _ => hBe); (try simp only [Act.put, List.setIfInBounds_toArray, List.set_cons_zero, List.set_cons_succ])))
  refine ord_do rfl (by rfl) (by rfl) (fun K hK => ?_)
  go_simp
  refine (plus_any _ _ _ _ _ _ _ _ _ (hsl _ hBe) hG (by omega) (by omega) (by omega) (by omega)).mono ?_
  rintro e wd' ⟨rfl, hwd⟩
  replace hBe := hBe.trans (hwd.mono hBe.size)
  clear hwd
  refine hK.out _ _ (fun _ => hBe) ?_
  (try simp only [Act.put, List.setIfInBounds_toArray, List.set_cons_zero, List.set_cons_succ])
  clear hK K
  rw [hz]
  repeat (first | (apply ord_tk rfl (by rfl) (by rfl) (by rfl); (focus (intro wx hSw; have r0 := (hSw.cell (p := ⟨w.heap.size, 0, none⟩) hszW).trans q0; have r1 := (hSw.cell (p := ⟨w.heap.size, 1, none⟩) hszW).trans q1; have r2 := (hSw.cell (p := ⟨w.heap.size, 2, none⟩) hszW).trans q2; have r3 := (hSw.cell (p := ⟨b, off + x, none⟩) hbG).trans c1; have r4 := (hSw.cell (p := ⟨b, off + y, none⟩) hbG).trans c2; have r5 := (hSw.cell (p := ⟨b, off + z, none⟩) hbG).trans c3; go_simp; (try with_reducible rfl))); (try simp only [Act.put, List.setIfInBounds_toArray, List.set_cons_zero, List.set_cons_succ])) | (apply ord_skip rfl (by rfl) (by rfl) (fun _ => hBe); (try simp only [Act.put, List.setIfInBounds_toArray, List.set_cons_zero, List.set_cons_succ])))
  refine ord_do rfl (by rfl) (by rfl) (fun K hK => ?_)
  go_simp
  refine (rest_any _ _ _ _ _ d1 (by omega)).mono ?_
  rintro e wd' ⟨rfl, hwd⟩
  replace hBe := hBe.trans (hwd.mono hBe.size)
  clear hwd
  refine hK.out _ _ (fun _ => hBe) ?_
  (try simp only [Act.put, List.setIfInBounds_toArray, List.set_cons_zero, List.set_cons_succ])
  clear hK K
  repeat (first | (apply ord_tk rfl (by rfl) (by rfl) (by rfl); (focus (intro wx hSw; have r0 := (hSw.cell (p := ⟨w.heap.size, 0, none⟩) hszW).trans q0; have r1 := (hSw.cell (p := ⟨w.heap.size, 1, none⟩) hszW).trans q1; have r2 := (hSw.cell (p := ⟨w.heap.size, 2, none⟩) hszW).trans q2; have r3 := (hSw.cell (p := ⟨b, off + x, none⟩) hbG).trans c1; have r4 := (hSw.cell (p := ⟨b, off + y, none⟩) hbG).trans c2; have r5 := (hSw.cell (p := ⟨b, off + z, none⟩) hbG).trans c3; go_simp; (try with_reducible rfl))); (try simp only [Act.put, List.setIfInBounds_toArray, List.set_cons_zero, List.set_cons_succ])) | (apply ord_skip rfl (by rfl) (by rfl) (fun _ => hBe); (try simp only [Act.put, List.setIfInBounds_toArray, List.set_cons_zero, List.set_cons_succ])))
  refine ord_do rfl (by rfl) (by rfl) (fun K hK => ?_)
  go_simp
  refine hK.out _ _ (fun h => absurd h (by omega)) ?_
  (try simp only [Act.put, List.setIfInBounds_toArray, List.set_cons_zero, List.set_cons_succ])
  clear hK K
  refine ord_nil ?_
  go_wp2
  go_ret
  exact ⟨by rw [hPP.out]; rfl, hbW.trans (hBe.mono (Nat.le_of_lt hszW))⟩
end Go.Proofs.YtonehmjoolflfaaGreatDoor
