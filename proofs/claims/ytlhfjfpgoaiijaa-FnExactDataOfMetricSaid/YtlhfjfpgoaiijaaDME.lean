
/- The walk of DataOfMetric of the program; the law. -/
import Derived.Test.YtlhfjfpgoaiijaaDMD
import Derived.WalkLawsBesides
namespace Go.Proofs.Ytlhfjfpgoaiijaa
open Go Go.RowKit Grp
set_option linter.unusedSimpArgs false
set_option linter.unusedVariables false
set_option maxRecDepth 100000
theorem radL_len1 {os vs : List Int} {D : Int} (hM : IsM os D vs) : 1 ≤ (radL os D vs vs.length).length := by
  have hl := hM.ok.len
  have hg := hM.ok.g.ge
  have h0 : (0 : Int) ∈ radL os D vs vs.length := by
    unfold radL
    refine List.mem_map.2 ⟨0, List.mem_filter.2 ⟨List.mem_range.2 (by omega), ?_⟩, rfl⟩
    unfold radB
    refine List.all_eq_true.2 fun y hy => ?_
    rw [beq_iff_eq]
    exact Pr_z hM (by omega) (by have := List.mem_range.1 hy; omega)
  exact List.length_pos_of_mem h0
theorem radL_len16 (os : List Int) (D : Int) (vs : List Int) : (radL os D vs vs.length).length ≤ vs.length := by
  unfold radL
  rw [List.length_map]
  have := List.length_filter_le (fun x => radB os D vs x) (List.range vs.length)
  rwa [List.length_range] at this
set_option maxHeartbeats 8000000 in
theorem impl_Data_any (w : World) (A : Option Addr) (n c : Nat) (os : List Int) (D : Int) (A' : Option Addr) (n' c' : Nat) (vs : List Int) (h : Sl w w.heap.size A n c os) (h' : Sl w w.heap.size A' n' c' vs) (hn : n ≤ 1048576) (hn' : n' ≤ 1048576) :
    Calls Try.prog 7 #[.agg #[.slice A n c, .int .i64 D, .slice A' n' c']] w (MkEC data_E w (daX (os, D, vs)) (daK (os, D, vs))) := by
  obtain rfl := h'.len
  have HI0 := fun W (hW : Below w.heap.size w W) => implIs_any W A n c os D A' vs.length c' vs ((h.below hW).more hW.size) ((h'.below hW).more hW.size) hn hn'
  cases him : isM os D vs with
  | false =>
    rw [daX_no (x := (os, D, vs)) him, daK_no (x := (os, D, vs)) him]
    rw [him] at HI0
    have HI := hide HI0
    clear HI0 him
    go_enter Try.func7, Try.ntmps7
    go_wp2_with fail
    obtain ⟨W, hW⟩ : ∃ W, (w.alloc (.cells #[.slice A n c, .int .i64 D, .slice A' vs.length c'] 31)).alloc (.cells #[.slice none 0 0, .slice none 0 0] 28) = W := ⟨_, rfl⟩
    have hbW : Below w.heap.size w W := by rw [← hW]; exact (by repeat (first | assumption | exact Below.refl _ _ | apply below_drewN | apply Below.drew | apply Below.alloc | apply Below.setCell | omega | (focus (simp; done)) | (focus (simp; omega))))
    have hszW : W.heap.size = w.heap.size + 2 := by rw [← hW]; simp
    have bM : Blk W w.heap.size 31 #[.slice A n c, .int .i64 D, .slice A' vs.length c'] := by rw [← hW]; exact (Blk.new _ _ _).alloc _
    have bR : Blk W (w.heap.size + 1) 28 #[.slice none 0 0, .slice none 0 0] := by rw [← hW]; exact Blk.new' _ _ _ _ (by simp)
    rw [hW]
    clear hW
    have q0 := bM.cell 0
    have q1 := bM.cell 1
    have q2 := bM.cell 2
    go_wp2_with fail
    refine (HI.out _ hbW).mono ?_
    rintro e w1 ⟨rfl, hb1⟩
    clear q0 q1 q2
    have bR1 := bR.all hb1
    have hb2 := hbW.trans (hb1.mono hbW.size)
    have rr0 := bR1.cell 0
    have rr1 := bR1.cell 1
    have rf0 := bR1.frozen 0
    have rf1 := bR1.frozen 1
    have hB9 := ((hb2.setCell (p := ⟨w.heap.size + 1, 0, none⟩) (by simp) (.slice none 0 0)).setCell (p := ⟨w.heap.size + 1, 1, none⟩) (by simp) (.slice none 0 0))
    have b5 := (bR1.store 0 (.slice none 0 0)).store 1 (.slice none 0 0)
    have s0 := b5.cell 0
    have s1 := b5.cell 1
    go_wp2_with fail
    refine bodyPost_ret (v := .tuple #[.agg #[.slice none 0 0, .slice none 0 0], .int .i64 1]) (by simp [results, Try.results7, go_sem, s0, s1]) rfl ?_
    exact ⟨_, rfl, data_none _ _ (fun b hb => hb.2), hB9⟩
  | true =>
    have hM := isM_iff.1 him
    rw [him] at HI0
    have HI := hide HI0
    clear HI0 him
    have hd1 := hM.ok.d1
    have hd2 := hM.ok.d2
    have h16 := hM.ok.lt
    obtain ⟨d, rfl⟩ : ∃ d : Nat, D = (d : Int) := ⟨D.toNat, by omega⟩
    have HR := hide (fun W (hW : Below w.heap.size w W) => radical_any W A n c os d A' vs.length c' vs ((h.below hW).more hW.size) ((h'.below hW).more hW.size) hM.ok)
    have HD := hide (fun W (hW : Below w.heap.size w W) => dataOfMetric_any W A n c os d A' vs.length c' vs ((h.below hW).more hW.size) ((h'.below hW).more hW.size) hM)
    have hr1 := radL_len1 hM
    have hr2 := radL_len16 os d vs
    have hrr : ∀ x ∈ radL os d vs vs.length, i64ok x := by
      intro x hx
      unfold radL at hx
      obtain ⟨y, hy, rfl⟩ := List.mem_map.1 hx
      have := List.mem_range.1 (List.mem_filter.1 hy).1
      exact ⟨by omega, by omega⟩
    have hnd := ndg_iff hM
    by_cases hg : Ndg os d vs
    · rw [daX_ok (x := (os, (d : Int), vs)) hM hg, daK_ok (x := (os, (d : Int), vs)) hM hg]
      have hlen := hnd.2 hg
      obtain ⟨rl, hrl⟩ : ∃ rl, radL os d vs vs.length = rl := ⟨_, rfl⟩
      rw [hrl] at HR hrr hlen
      clear hnd hr1 hr2 hrl hg hM
      go_enter Try.func7, Try.ntmps7
      go_wp2_with fail
      obtain ⟨W, hW⟩ : ∃ W, (w.alloc (.cells #[.slice A n c, .int .i64 (d : Int), .slice A' vs.length c'] 31)).alloc (.cells #[.slice none 0 0, .slice none 0 0] 28) = W := ⟨_, rfl⟩
      have hbW : Below w.heap.size w W := by rw [← hW]; exact (by repeat (first | assumption | exact Below.refl _ _ | apply below_drewN | apply Below.drew | apply Below.alloc | apply Below.setCell | omega | (focus (simp; done)) | (focus (simp; omega))))
      have hszW : W.heap.size = w.heap.size + 2 := by rw [← hW]; simp
      have bM : Blk W w.heap.size 31 #[.slice A n c, .int .i64 (d : Int), .slice A' vs.length c'] := by rw [← hW]; exact (Blk.new _ _ _).alloc _
      have bR : Blk W (w.heap.size + 1) 28 #[.slice none 0 0, .slice none 0 0] := by rw [← hW]; exact Blk.new' _ _ _ _ (by simp)
      rw [hW]
      clear hW
      have q0 := bM.cell 0
      have q1 := bM.cell 1
      have q2 := bM.cell 2
      go_wp2_with fail
      refine (HI.out _ hbW).mono ?_
      rintro e w1 ⟨rfl, hb1⟩
      clear q0 q1 q2
      have bM1 := bM.all hb1
      have q0 := bM1.cell 0
      have q1 := bM1.cell 1
      have q2 := bM1.cell 2
      have hb2 := hbW.trans (hb1.mono hbW.size)
      go_wp2_with fail
      refine (HR.out _ hb2).mono ?_
      rintro e w3 ⟨vr, rfl, or, hb3⟩
      obtain ⟨Ar', cr, rfl, -⟩ := or.sl hrr
      rw [hlen]
      clear q0 q1 q2 or
      have hb4 := hb2.trans (hb3.mono hb2.size)
      have bM3 := bM1.all hb3
      have q0 := bM3.cell 0
      have q1 := bM3.cell 1
      have q2 := bM3.cell 2
      have hz3 : W.heap.size ≤ w3.heap.size := Nat.le_trans hb1.size hb3.size
      go_wp2_with fail
      refine (HD.out _ hb4).mono ?_
      rintro e w5 ⟨vd, rfl, hE, hb5⟩
      obtain ⟨A1, n1, c1, A2, n2, c2, rfl, -⟩ := data_form (data_rd hE)
      have bR5 := ((bR.all hb1).all hb3).all hb5
      have hB5 := hb4.trans (hb5.mono hb4.size)
      have rr0 := bR5.cell 0
      have rr1 := bR5.cell 1
      have rf0 := bR5.frozen 0
      have rf1 := bR5.frozen 1
      have hBz := ((hB5.setCell (p := ⟨w.heap.size + 1, 0, none⟩) (by simp) (.slice A1 n1 c1)).setCell (p := ⟨w.heap.size + 1, 1, none⟩) (by simp) (.slice A2 n2 c2))
      have b5 := (bR5.store 0 (.slice A1 n1 c1)).store 1 (.slice A2 n2 c2)
      have s0 := b5.cell 0
      have s1 := b5.cell 1
      have HE := hide (data_two (a := .slice A1 n1 c1) (b := .slice A2 n2 c2) (g := w.heap.size + 1) (lo2 := w.heap.size) hE (by omega) (by simp [World.setCell]) (by omega))
      clear q0 q1 q2 hE bR5
      go_wp2_with fail
      refine bodyPost_ret (v := .tuple #[.agg #[.slice A1 n1 c1, .slice A2 n2 c2], .int .i64 0]) (by simp [results, Try.results7, go_sem, s0, s1]) rfl ?_
      exact ⟨_, rfl, HE.out, hBz⟩
    · rw [daX_bad (x := (os, (d : Int), vs)) hM hg, daK_bad (x := (os, (d : Int), vs)) hM hg]
      have hlen : 1 < (radL os d vs vs.length).length := by
        rcases Nat.lt_or_ge 1 (radL os d vs vs.length).length with h | h
        · exact h
        · exact absurd (hnd.1 (by omega)) hg
      obtain ⟨rl, hrl⟩ : ∃ rl, radL os d vs vs.length = rl := ⟨_, rfl⟩
      rw [hrl] at HR hrr hlen hr2
      clear hnd hr1 hrl hg hM
      go_enter Try.func7, Try.ntmps7
      go_wp2_with fail
      obtain ⟨W, hW⟩ : ∃ W, (w.alloc (.cells #[.slice A n c, .int .i64 (d : Int), .slice A' vs.length c'] 31)).alloc (.cells #[.slice none 0 0, .slice none 0 0] 28) = W := ⟨_, rfl⟩
      have hbW : Below w.heap.size w W := by rw [← hW]; exact (by repeat (first | assumption | exact Below.refl _ _ | apply below_drewN | apply Below.drew | apply Below.alloc | apply Below.setCell | omega | (focus (simp; done)) | (focus (simp; omega))))
      have hszW : W.heap.size = w.heap.size + 2 := by rw [← hW]; simp
      have bM : Blk W w.heap.size 31 #[.slice A n c, .int .i64 (d : Int), .slice A' vs.length c'] := by rw [← hW]; exact (Blk.new _ _ _).alloc _
      have bR : Blk W (w.heap.size + 1) 28 #[.slice none 0 0, .slice none 0 0] := by rw [← hW]; exact Blk.new' _ _ _ _ (by simp)
      rw [hW]
      clear hW
      have q0 := bM.cell 0
      have q1 := bM.cell 1
      have q2 := bM.cell 2
      go_wp2_with fail
      refine (HI.out _ hbW).mono ?_
      rintro e w1 ⟨rfl, hb1⟩
      clear q0 q1 q2
      have bM1 := bM.all hb1
      have q0 := bM1.cell 0
      have q1 := bM1.cell 1
      have q2 := bM1.cell 2
      have hb2 := hbW.trans (hb1.mono hbW.size)
      go_wp2_with fail
      refine (HR.out _ hb2).mono ?_
      rintro e w3 ⟨vr, rfl, or, hb3⟩
      obtain ⟨Ar', cr, rfl, -⟩ := or.sl hrr
      obtain ⟨rn, hrn⟩ : ∃ rn, rl.length = rn := ⟨_, rfl⟩
      rw [hrn] at hlen hr2 ⊢
      clear q0 q1 q2 or hrn
      have hb4 := hb2.trans (hb3.mono hb2.size)
      have bR3 := (bR.all hb1).all hb3
      have rr0 := bR3.cell 0
      have rr1 := bR3.cell 1
      have rf0 := bR3.frozen 0
      have rf1 := bR3.frozen 1
      have hB9 := ((hb4.setCell (p := ⟨w.heap.size + 1, 0, none⟩) (by simp) (.slice none 0 0)).setCell (p := ⟨w.heap.size + 1, 1, none⟩) (by simp) (.slice none 0 0))
      have b5 := (bR3.store 0 (.slice none 0 0)).store 1 (.slice none 0 0)
      have s0 := b5.cell 0
      have s1 := b5.cell 1
      go_wp2_with fail
      refine bodyPost_ret (v := .tuple #[.agg #[.slice none 0 0, .slice none 0 0], .int .i64 5]) (by simp [results, Try.results7, go_sem, s0, s1]) rfl ?_
      exact ⟨_, rfl, data_none _ _ (fun b hb => hb.2), hB9⟩
theorem specDt_c (w : World) (v : Value) (x : metric_T) (h : metric_R w w.heap.size v x) (hs : metric_Sh x) : Calls Try.prog 5 #[v] w (MkEC data_E w (daX x) (daK x)) := by
  obtain ⟨A, n, c, D, m, e, rfl, h1, h2, h3⟩ := h
  have hs2 : x.1.length + x.2.2.length ≤ 1048576 := hs
  have l1 := h1.len
  have l2 := h2.len
  exact spec_Data_any w A n c x.1 x.2.1 D m e x.2.2 h1 h2 (by omega) (by omega)
theorem implDt_c (w : World) (v : Value) (x : metric_T) (h : metric_R w w.heap.size v x) (hs : metric_Sh x) : Calls Try.prog 7 #[v] w (MkEC data_E w (daX x) (daK x)) := by
  obtain ⟨A, n, c, D, m, e, rfl, h1, h2, h3⟩ := h
  have hs2 : x.1.length + x.2.2.length ≤ 1048576 := hs
  have l1 := h1.len
  have l2 := h2.len
  exact impl_Data_any w A n c x.1 x.2.1 D m e x.2.2 h1 h2 (by omega) (by omega)
theorem daX_tot (x : metric_T) : data_tot (daX x) ≤ 1048576 := by
  unfold daX
  split
  · rename_i hh
    have hM : IsM x.1 x.2.1 x.2.2 := by
      have h9 := hh
      unfold ndgM at h9
      rw [Bool.and_eq_true] at h9
      exact isM_iff.1 h9.1
    have h16 := hM.ok.lt
    have key : ∀ (f : Nat → Nat → Int) (n : Nat), n ≤ 16 → tot2 (mat n f) ≤ 16 + 16 * 16 := by
      intro f n hn
      unfold tot2 totL mat
      rw [List.length_map, List.length_range, List.map_map]
      have e : (List.length ∘ fun y => List.map (fun z => f y z) (List.range n)) = fun _ => n := by funext y; simp
      rw [e]
      have hs : ∀ L : List Nat, (L.map fun _ => n).sum = L.length * n := fun L => by
        induction L with
        | nil => simp
        | cons a L ih => simp only [List.map_cons, List.sum_cons, List.length_cons, ih, Nat.succ_mul]; omega
      have : ((List.range n).map fun _ => n).sum = n * n := by rw [hs, List.length_range]
      rw [this]
      have : n * n ≤ 16 * 16 := Nat.mul_le_mul hn hn
      omega
    have := key (dS x.1 x.2.1 x.2.2) x.2.2.length h16
    unfold data_tot
    simp only [dTL_len]
    omega
  · simp [data_tot, tot2, totL]
set_option maxHeartbeats 8000000 in
set_option maxRecDepth 100000 in
theorem law_DataOfMetric {w : World} (v0 : Value) (x0 : metric_T) (HA0 : metric_R w w.heap.size v0 x0) (HB0 : metric_Big x0) : Calls Try.prog 3 #[v0] w (Re w (.bool true)) := by
  obtain ⟨A0, n0, c0, z0, D0, m0, e0, rfl, hf⟩ := metric_form HA0
  clear hf
  by_cases q0 : (1048576 : Int) - (metric_tot x0 : Int) < 0
  · have HZ0 := hide (fun (W : World) (h : Below w.heap.size w W) => metric_sz W _ x0 1048576 (metric_keep HA0 h h.size) HB0 (by omega) (by omega))
    rw [szI_no q0] at HZ0
    go_enter Try.func3, Try.ntmps3
    go_wp2_with fail
    obtain ⟨W, hW⟩ : ∃ W, w.alloc (.cells #[.slice A0 n0 c0, .int .i64 z0, .slice D0 m0 e0] 24) = W := ⟨_, rfl⟩
    have kw : Below w.heap.size w W := by rw [← hW]; exact (by repeat (first | assumption | exact Below.refl _ _ | apply below_drewN | apply Below.drew | apply Below.alloc | apply Below.setCell | omega | (focus (simp; done)) | (focus (simp; omega))))
    have bA0 : Blk W (w.heap.size) 24 #[.slice A0 n0 c0, .int .i64 z0, .slice D0 m0 e0] := by rw [← hW]; exact (Blk.new' _ _ _ _ (by simp))
    have sA0 : w.heap.size < W.heap.size := bA0.lt
    rw [hW]
    clear hW
    refine (HZ0.out _ kw).mono ?_
    rintro e ws0 ⟨rfl, hb⟩
    replace kw := kw.trans (hb.mono kw.size)
    replace bA0 := bA0.all hb
    replace sA0 := Nat.lt_of_lt_of_le sA0 hb.size
    clear hb
    have bA0c0 := bA0.cell 0
    have bA0c1 := bA0.cell 1
    have bA0c2 := bA0.cell 2
    go_wp2_with fail
    clear bA0c0 bA0c1 bA0c2
    go_ret
    exact ⟨rfl, kw⟩
  · have HZ0 := hide (fun (W : World) (h : Below w.heap.size w W) => metric_sz W _ x0 1048576 (metric_keep HA0 h h.size) HB0 (by omega) (by omega))
    rw [szI_ok q0] at HZ0
    have HS0 : metric_tot x0 ≤ 1048576 := by omega
    obtain ⟨l1, el1⟩ : ∃ l, (1048576 : Int) - (metric_tot x0 : Int) = l := ⟨_, rfl⟩
    have bl1a : 0 ≤ l1 := by omega
    have bl1b : l1 ≤ 1048576 := by omega
    rw [el1] at HZ0
    clear el1 q0
    have SH0 := metric_sh HS0
    have SL0 := metric_sumle x0
    obtain ⟨y0, hy0⟩ : ∃ y : data_T, daX x0 = y := ⟨_, rfl⟩
    have HY0 := hide hy0
    clear hy0
    obtain ⟨y1, hy1⟩ : ∃ y : Int, daK x0 = y := ⟨_, rfl⟩
    have HY1 := hide hy1
    clear hy1
    have SY0 : data_tot y0 ≤ 1048576 := by rw [← HY0.out]; exact daX_tot x0
    have SY := data_sh SY0
    have SY2 := data_sumle y0
    go_enter Try.func3, Try.ntmps3
    go_wp2_with fail
    obtain ⟨W, hW⟩ : ∃ W, w.alloc (.cells #[.slice A0 n0 c0, .int .i64 z0, .slice D0 m0 e0] 24) = W := ⟨_, rfl⟩
    have kw : Below w.heap.size w W := by rw [← hW]; exact (by repeat (first | assumption | exact Below.refl _ _ | apply below_drewN | apply Below.drew | apply Below.alloc | apply Below.setCell | omega | (focus (simp; done)) | (focus (simp; omega))))
    have bA0 : Blk W (w.heap.size) 24 #[.slice A0 n0 c0, .int .i64 z0, .slice D0 m0 e0] := by rw [← hW]; exact (Blk.new' _ _ _ _ (by simp))
    have sA0 : w.heap.size < W.heap.size := bA0.lt
    rw [hW]
    clear hW
    refine (HZ0.out _ kw).mono ?_
    rintro e ws0 ⟨rfl, hb⟩
    replace kw := kw.trans (hb.mono kw.size)
    replace bA0 := bA0.all hb
    replace sA0 := Nat.lt_of_lt_of_le sA0 hb.size
    clear hb
    have bA0c0 := bA0.cell 0
    have bA0c1 := bA0.cell 1
    have bA0c2 := bA0.cell 2
    go_wp2_with fail
    clear bA0c0 bA0c1 bA0c2
    refine (metric_to _ _ x0 (metric_keep HA0 kw kw.size) SH0).mono ?_
    rintro e t1 ⟨u, rfl, he, hb⟩
    obtain ⟨As0, ns0, cs0, zs0, Ds0, ms0, es0, rfl, hf⟩ := metric_form (metric_rd he)
    clear hf
    have hbs := hb.size
    replace kw := kw.trans (hb.mono kw.size)
    replace bA0 := bA0.all hb
    replace sA0 := Nat.lt_of_lt_of_le sA0 hb.size
    clear hb
    clear hbs
    have Es0 := he
    clear he
    have bA0c0 := bA0.cell 0
    have bA0c1 := bA0.cell 1
    have bA0c2 := bA0.cell 2
    go_wp2_with fail
    clear bA0c0 bA0c1 bA0c2
    have hcl := (specDt_c t1 _ x0 (metric_rd Es0) SH0)
    rw [HY0.out, HY1.out] at hcl
    have HCL := hide hcl
    clear hcl
    refine HCL.out.mono ?_
    rintro e t2 ⟨u, rfl, he, hb⟩
    clear HCL
    obtain ⟨Aw, nw, cw, Dw, mw, ew, rfl, hf⟩ := data_form (data_rd he)
    clear hf
    replace kw := kw.trans (hb.mono kw.size)
    replace bA0 := bA0.all hb
    replace sA0 := Nat.lt_of_lt_of_le sA0 hb.size
    replace Es0 := metric_below Es0 hb
    clear hb
    clear Es0
    have SA0t2 := sA0
    have Kt2 := kw.size
    have Zt2 := Nat.le_refl t2.heap.size
    have Rw := data_rd he
    clear he
    obtain ⟨Xw, hXw⟩ : ∃ X, t2.heap.size = X := ⟨_, rfl⟩
    have sA0l2 : w.heap.size < Xw := by omega
    have bA0c0 := bA0.cell 0
    have bA0c1 := bA0.cell 1
    have bA0c2 := bA0.cell 2
    go_wp2_with fail
    clear bA0c0 bA0c1 bA0c2
    clear sA0l2
    obtain ⟨t3, ht3⟩ : ∃ w5, t2.alloc (.cells #[.slice Aw nw cw, .slice Dw mw ew] 28) = w5 := ⟨_, rfl⟩
    have hb : Below t2.heap.size t2 t3 := by rw [← ht3]; exact (Below.refl _ _).alloc (Nat.le_refl _) _
    have bw : Blk t3 Xw 28 #[.slice Aw nw cw, .slice Dw mw ew] := by rw [← ht3]; exact Blk.new' _ _ _ _ hXw
    rw [ht3]
    clear ht3
    replace kw := kw.trans (hb.mono kw.size)
    replace bA0 := bA0.all hb
    replace sA0 := Nat.lt_of_lt_of_le sA0 hb.size
    replace Rw := data_keep Rw (hb.mono Zt2) (Nat.le_refl _)
    replace Zt2 := Nat.le_trans Zt2 hb.size
    clear hb
    have Ot2t3 := Zt2
    have SA0t3 := sA0
    have Gbwt3 := bw.lt
    have Kt3 := kw.size
    have Zt3 := Nat.le_refl t3.heap.size
    refine (metric_to _ _ x0 (metric_keep HA0 kw kw.size) SH0).mono ?_
    rintro e t4 ⟨u, rfl, he, hb⟩
    obtain ⟨Ax0, nx0, cx0, zx0, Dx0, mx0, ex0, rfl, hf⟩ := metric_form (metric_rd he)
    clear hf
    have hbs := hb.size
    replace kw := kw.trans (hb.mono kw.size)
    replace bA0 := bA0.all hb
    replace sA0 := Nat.lt_of_lt_of_le sA0 hb.size
    replace bw := bw.all hb
    replace Rw := data_keep Rw (hb.mono Zt2) (Nat.le_refl _)
    replace Zt2 := Nat.le_trans Zt2 hb.size
    replace Zt3 := Nat.le_trans Zt3 hb.size
    clear hb
    clear hbs
    have EX0 := he
    clear he
    have Ot2t4 := Zt2
    have Ot3t4 := Zt3
    have SA0t4 := sA0
    have Gbwt4 := bw.lt
    have Kt4 := kw.size
    have Zt4 := Nat.le_refl t4.heap.size
    obtain ⟨X0, hX0⟩ : ∃ X, t4.heap.size = X := ⟨_, rfl⟩
    have bwl2 : Xw < X0 := by have := bw.lt; omega
    have sA0l2 : w.heap.size < X0 := by omega
    have bA0c0 := bA0.cell 0
    have bA0c1 := bA0.cell 1
    have bA0c2 := bA0.cell 2
    have bwc0 := bw.cell 0
    have bwc1 := bw.cell 1
    have bwlt := bw.lt
    go_wp2_with fail
    clear bA0c0 bA0c1 bA0c2 bwc0 bwc1 bwlt
    clear bwl2 sA0l2
    obtain ⟨t5, ht5⟩ : ∃ w5, t4.alloc (.cells #[.slice Ax0 nx0 cx0, .int .i64 zx0, .slice Dx0 mx0 ex0] 31) = w5 := ⟨_, rfl⟩
    have hb : Below t4.heap.size t4 t5 := by rw [← ht5]; exact (Below.refl _ _).alloc (Nat.le_refl _) _
    have bX0 : Blk t5 X0 31 #[.slice Ax0 nx0 cx0, .int .i64 zx0, .slice Dx0 mx0 ex0] := by rw [← ht5]; exact Blk.new' _ _ _ _ hX0
    rw [ht5]
    clear ht5
    replace kw := kw.trans (hb.mono kw.size)
    replace bA0 := bA0.all hb
    replace sA0 := Nat.lt_of_lt_of_le sA0 hb.size
    replace bw := bw.all hb
    replace EX0 := metric_below EX0 hb
    replace Rw := data_keep Rw (hb.mono Zt2) (Nat.le_refl _)
    replace Zt2 := Nat.le_trans Zt2 hb.size
    replace Zt3 := Nat.le_trans Zt3 hb.size
    replace Zt4 := Nat.le_trans Zt4 hb.size
    clear hb
    have gX0 := bX0.lt
    have Ot2t5 := Zt2
    have Ot3t5 := Zt3
    have Ot4t5 := Zt4
    have SA0t5 := sA0
    have Gbwt5 := bw.lt
    have GbX0t5 := bX0.lt
    have Kt5 := kw.size
    have Zt5 := Nat.le_refl t5.heap.size
    clear gX0
    have hcl := (implDt_c t5 _ x0 (metric_rd EX0) SH0)
    rw [HY0.out, HY1.out] at hcl
    have HCL := hide hcl
    clear hcl
    refine HCL.out.mono ?_
    rintro e t6 ⟨u, rfl, he, hb⟩
    clear HCL
    obtain ⟨Ag, ng, cg, Dg, mg, eg, rfl, hf⟩ := data_form (data_rd he)
    clear hf
    replace kw := kw.trans (hb.mono kw.size)
    replace bA0 := bA0.all hb
    replace sA0 := Nat.lt_of_lt_of_le sA0 hb.size
    replace bw := bw.all hb
    replace bX0 := bX0.all hb
    replace EX0 := metric_below EX0 hb
    replace Rw := data_keep Rw (hb.mono Zt2) (Nat.le_refl _)
    replace Zt2 := Nat.le_trans Zt2 hb.size
    replace Zt3 := Nat.le_trans Zt3 hb.size
    replace Zt4 := Nat.le_trans Zt4 hb.size
    replace Zt5 := Nat.le_trans Zt5 hb.size
    clear hb
    have Eg := he
    clear he
    have Ot2t6 := Zt2
    have Ot3t6 := Zt3
    have Ot4t6 := Zt4
    have Ot5t6 := Zt5
    have SA0t6 := sA0
    have Gbwt6 := bw.lt
    have GbX0t6 := bX0.lt
    have Kt6 := kw.size
    have Zt6 := Nat.le_refl t6.heap.size
    obtain ⟨Xg, hXg⟩ : ∃ X, t6.heap.size = X := ⟨_, rfl⟩
    have bwl2 : Xw < Xg := by have := bw.lt; omega
    have bX0l2 : X0 < Xg := by have := bX0.lt; omega
    have sA0l2 : w.heap.size < Xg := by omega
    have bA0c0 := bA0.cell 0
    have bA0c1 := bA0.cell 1
    have bA0c2 := bA0.cell 2
    have bwc0 := bw.cell 0
    have bwc1 := bw.cell 1
    have bX0c0 := bX0.cell 0
    have bX0c1 := bX0.cell 1
    have bX0c2 := bX0.cell 2
    have bwlt := bw.lt
    have bX0lt := bX0.lt
    go_wp2_with fail
    clear bA0c0 bA0c1 bA0c2 bwc0 bwc1 bX0c0 bX0c1 bX0c2 bwlt bX0lt
    clear bwl2 bX0l2 sA0l2
    obtain ⟨t7, ht7⟩ : ∃ w5, t6.alloc (.cells #[.slice Ag ng cg, .slice Dg mg eg] 28) = w5 := ⟨_, rfl⟩
    have hb : Below t6.heap.size t6 t7 := by rw [← ht7]; exact (Below.refl _ _).alloc (Nat.le_refl _) _
    have bg : Blk t7 Xg 28 #[.slice Ag ng cg, .slice Dg mg eg] := by rw [← ht7]; exact Blk.new' _ _ _ _ hXg
    rw [ht7]
    clear ht7
    replace kw := kw.trans (hb.mono kw.size)
    replace bA0 := bA0.all hb
    replace sA0 := Nat.lt_of_lt_of_le sA0 hb.size
    replace bw := bw.all hb
    replace bX0 := bX0.all hb
    replace EX0 := metric_below EX0 hb
    replace Eg := data_below Eg hb
    replace Rw := data_keep Rw (hb.mono Zt2) (Nat.le_refl _)
    replace Zt2 := Nat.le_trans Zt2 hb.size
    replace Zt3 := Nat.le_trans Zt3 hb.size
    replace Zt4 := Nat.le_trans Zt4 hb.size
    replace Zt5 := Nat.le_trans Zt5 hb.size
    replace Zt6 := Nat.le_trans Zt6 hb.size
    clear hb
    have Ot2t7 := Zt2
    have Ot3t7 := Zt3
    have Ot4t7 := Zt4
    have Ot5t7 := Zt5
    have Ot6t7 := Zt6
    have SA0t7 := sA0
    have Gbwt7 := bw.lt
    have GbX0t7 := bX0.lt
    have Gbgt7 := bg.lt
    have Kt7 := kw.size
    have Zt7 := Nat.le_refl t7.heap.size
    refine (data_eq _ _ _ y0 y0 (data_rd Eg) (data_keep Rw (Below.refl _ _) Zt2) SY).mono ?_
    rintro e t8 ⟨rfl, hb⟩
    simp only [beq_self_eq_true]
    replace kw := kw.trans (hb.mono kw.size)
    replace bA0 := bA0.all hb
    replace sA0 := Nat.lt_of_lt_of_le sA0 hb.size
    replace bw := bw.all hb
    replace bX0 := bX0.all hb
    replace bg := bg.all hb
    replace EX0 := metric_below EX0 hb
    replace Eg := data_below Eg hb
    replace Rw := data_keep Rw (hb.mono Zt2) (Nat.le_refl _)
    replace Zt2 := Nat.le_trans Zt2 hb.size
    replace Zt3 := Nat.le_trans Zt3 hb.size
    replace Zt4 := Nat.le_trans Zt4 hb.size
    replace Zt5 := Nat.le_trans Zt5 hb.size
    replace Zt6 := Nat.le_trans Zt6 hb.size
    replace Zt7 := Nat.le_trans Zt7 hb.size
    clear hb
    have bA0c0 := bA0.cell 0
    have bA0c1 := bA0.cell 1
    have bA0c2 := bA0.cell 2
    have bwc0 := bw.cell 0
    have bwc1 := bw.cell 1
    have bX0c0 := bX0.cell 0
    have bX0c1 := bX0.cell 1
    have bX0c2 := bX0.cell 2
    have bgc0 := bg.cell 0
    have bgc1 := bg.cell 1
    have bwlt := bw.lt
    have bX0lt := bX0.lt
    have bglt := bg.lt
    go_wp2_with fail
    clear bA0c0 bA0c1 bA0c2 bwc0 bwc1 bX0c0 bX0c1 bX0c2 bgc0 bgc1 bwlt bX0lt bglt
    have HXl := bX0.lt
    have HAl := bA0.lt
    have rA0 := bA0.cell 0
    have rX0 := bX0.cell 0
    have rA1 := bA0.cell 1
    have rX1 := bX0.cell 1
    have rA2 := bA0.cell 2
    have rX2 := bX0.cell 2
    refine wp_region_be [0, 1, 2, 3, 4] 5 t8.heap.size t8 (by kernel_rfl) (by kernel_rfl) (by kernel_rfl) (fun _ _ _ _ _ h => h) (Below.refl _ _) (fun wd hBe => ?_)
    repeat (first | (apply ord_tk rfl (by rfl) (by rfl) (by rfl); (focus (intro wx hSw; have r0 := (hSw.cell (p := ⟨w.heap.size, 0, none⟩) HAl).trans rA0; have r1 := (hSw.cell (p := ⟨w.heap.size, 1, none⟩) HAl).trans rA1; have r2 := (hSw.cell (p := ⟨w.heap.size, 2, none⟩) HAl).trans rA2; have s0 := (hSw.cell (p := ⟨X0, 0, none⟩) HXl).trans rX0; have s1 := (hSw.cell (p := ⟨X0, 1, none⟩) HXl).trans rX1; have s2 := (hSw.cell (p := ⟨X0, 2, none⟩) HXl).trans rX2; go_simp; (try with_reducible rfl))); (try simp only [Act.put, List.setIfInBounds_toArray, List.set_cons_zero, List.set_cons_succ])) | (apply ord_skip rfl (by rfl) (by rfl) (fun _ => hBe); (try simp only [Act.put, List.setIfInBounds_toArray, List.set_cons_zero, List.set_cons_succ])))
    refine ord_do rfl (by rfl) (by rfl) (fun K hK => ?_)
    go_simp
    have kq := kw.trans (hBe.mono kw.size)
    refine (metric_to _ _ x0 (metric_keep HA0 kq kq.size) SH0).mono ?_
    rintro e wq ⟨u, rfl, he, hb⟩
    obtain ⟨Ar0, nr0, cr0, zr0, Dr0, mr0, er0, rfl, hf⟩ := metric_form (metric_rd he)
    clear hf
    replace hBe := hBe.trans (hb.mono hBe.size)
    clear hb kq
    refine hK.out _ _ (fun _ => hBe) ?_
    (try simp only [Act.put, List.setIfInBounds_toArray, List.set_cons_zero, List.set_cons_succ])
    clear hK K
    repeat (first | (apply ord_tk rfl (by rfl) (by rfl) (by rfl); (focus (intro wx hSw; have r0 := (hSw.cell (p := ⟨w.heap.size, 0, none⟩) HAl).trans rA0; have r1 := (hSw.cell (p := ⟨w.heap.size, 1, none⟩) HAl).trans rA1; have r2 := (hSw.cell (p := ⟨w.heap.size, 2, none⟩) HAl).trans rA2; have s0 := (hSw.cell (p := ⟨X0, 0, none⟩) HXl).trans rX0; have s1 := (hSw.cell (p := ⟨X0, 1, none⟩) HXl).trans rX1; have s2 := (hSw.cell (p := ⟨X0, 2, none⟩) HXl).trans rX2; go_simp; (try with_reducible rfl))); (try simp only [Act.put, List.setIfInBounds_toArray, List.set_cons_zero, List.set_cons_succ])) | (apply ord_skip rfl (by rfl) (by rfl) (fun _ => hBe); (try simp only [Act.put, List.setIfInBounds_toArray, List.set_cons_zero, List.set_cons_succ])))
    refine ord_do rfl (by rfl) (by rfl) (fun K hK => ?_)
    go_simp
    refine (metric_eq _ _ _ x0 x0 (metric_rd (metric_below EX0 hBe)) (metric_rd he) SH0).mono ?_
    rintro e wd' ⟨rfl, hwd⟩
    replace hBe := hBe.trans (hwd.mono hBe.size)
    clear hwd
    refine hK.out _ _ (fun _ => hBe) ?_
    (try simp only [Act.put, List.setIfInBounds_toArray, List.set_cons_zero, List.set_cons_succ])
    clear hK K
    simp only [beq_self_eq_true]
    repeat (first | (apply ord_tk rfl (by rfl) (by rfl) (by rfl); (focus (intro wx hSw; have r0 := (hSw.cell (p := ⟨w.heap.size, 0, none⟩) HAl).trans rA0; have r1 := (hSw.cell (p := ⟨w.heap.size, 1, none⟩) HAl).trans rA1; have r2 := (hSw.cell (p := ⟨w.heap.size, 2, none⟩) HAl).trans rA2; have s0 := (hSw.cell (p := ⟨X0, 0, none⟩) HXl).trans rX0; have s1 := (hSw.cell (p := ⟨X0, 1, none⟩) HXl).trans rX1; have s2 := (hSw.cell (p := ⟨X0, 2, none⟩) HXl).trans rX2; go_simp; (try with_reducible rfl))); (try simp only [Act.put, List.setIfInBounds_toArray, List.set_cons_zero, List.set_cons_succ])) | (apply ord_skip rfl (by rfl) (by rfl) (fun _ => hBe); (try simp only [Act.put, List.setIfInBounds_toArray, List.set_cons_zero, List.set_cons_succ])))
    refine ord_nil ?_
    clear he HXl HAl rA0 rX0 rA1 rX1 rA2 rX2
    obtain ⟨t9, hnz⟩ : ∃ x, x = wd' := ⟨_, rfl⟩
    subst hnz
    have hb := hBe
    clear hBe
    replace kw := kw.trans (hb.mono kw.size)
    replace bA0 := bA0.all hb
    replace sA0 := Nat.lt_of_lt_of_le sA0 hb.size
    replace bw := bw.all hb
    replace bX0 := bX0.all hb
    replace bg := bg.all hb
    replace EX0 := metric_below EX0 hb
    replace Eg := data_below Eg hb
    replace Rw := data_keep Rw (hb.mono Zt2) (Nat.le_refl _)
    replace Zt2 := Nat.le_trans Zt2 hb.size
    replace Zt3 := Nat.le_trans Zt3 hb.size
    replace Zt4 := Nat.le_trans Zt4 hb.size
    replace Zt5 := Nat.le_trans Zt5 hb.size
    replace Zt6 := Nat.le_trans Zt6 hb.size
    replace Zt7 := Nat.le_trans Zt7 hb.size
    clear hb
    have bA0c0 := bA0.cell 0
    have bA0c1 := bA0.cell 1
    have bA0c2 := bA0.cell 2
    have bwc0 := bw.cell 0
    have bwc1 := bw.cell 1
    have bX0c0 := bX0.cell 0
    have bX0c1 := bX0.cell 1
    have bX0c2 := bX0.cell 2
    have bgc0 := bg.cell 0
    have bgc1 := bg.cell 1
    have bwlt := bw.lt
    have bX0lt := bX0.lt
    have bglt := bg.lt
    go_wp2_with fail
    clear bA0c0 bA0c1 bA0c2 bwc0 bwc1 bX0c0 bX0c1 bX0c2 bgc0 bgc1 bwlt bX0lt bglt
    refine (metric_mark _ _ x0 _ 1 EX0 (by omega) (by omega) (by omega)).mono ?_
    rintro e t10 ⟨rfl, he, hw⟩
    have hbb := hw.below (B := t3.heap.size) (fun b hf => hf.1) Zt3
    replace kw := kw.trans (hbb.mono Kt3)
    replace bA0 := bA0.below hbb (by omega)
    replace sA0 := Nat.lt_of_lt_of_le sA0 hw.size
    replace bw := hw.blk bw (fun hf => by have a1 := hf.1; have a2 := hf.2; omega)
    replace bX0 := hw.blk bX0 (fun hf => by have a1 := hf.1; have a2 := hf.2; omega)
    replace bg := hw.blk bg (fun hf => by have a1 := hf.1; have a2 := hf.2; omega)
    replace Eg := data_wr Eg hw (fun b h1 h2 => by have a1 := h1.1; have a2 := h1.2; have a3 := h2.1; have a4 := h2.2; omega)
    replace Rw := data_keep Rw (hbb.mono (by omega)) (Nat.le_refl _)
    replace Zt2 := Nat.le_trans Zt2 hw.size
    replace Zt3 := Nat.le_trans Zt3 hw.size
    replace Zt4 := Nat.le_trans Zt4 hw.size
    replace Zt5 := Nat.le_trans Zt5 hw.size
    replace Zt6 := Nat.le_trans Zt6 hw.size
    replace Zt7 := Nat.le_trans Zt7 hw.size
    replace EX0 := he
    clear hbb hw he
    obtain ⟨kk0, hkk0, hkk0a, hkk0b⟩ : ∃ z : Int, 1 + (metric_sum x0 : Int) = z ∧ 0 ≤ z ∧ z ≤ 4000000 := ⟨_, rfl, by omega, by omega⟩
    rw [hkk0]
    have Hkk0 := hide hkk0
    clear hkk0
    clear EX0
    have bA0c0 := bA0.cell 0
    have bA0c1 := bA0.cell 1
    have bA0c2 := bA0.cell 2
    have bwc0 := bw.cell 0
    have bwc1 := bw.cell 1
    have bX0c0 := bX0.cell 0
    have bX0c1 := bX0.cell 1
    have bX0c2 := bX0.cell 2
    have bgc0 := bg.cell 0
    have bgc1 := bg.cell 1
    have bwlt := bw.lt
    have bX0lt := bX0.lt
    have bglt := bg.lt
    go_wp2_with fail
    clear bA0c0 bA0c1 bA0c2 bwc0 bwc1 bX0c0 bX0c1 bX0c2 bgc0 bgc1 bwlt bX0lt bglt
    refine (data_eq _ _ _ y0 y0 (data_rd Eg) (data_keep Rw (Below.refl _ _) Zt2) SY).mono ?_
    rintro e t11 ⟨rfl, hb⟩
    simp only [beq_self_eq_true]
    replace kw := kw.trans (hb.mono kw.size)
    replace bA0 := bA0.all hb
    replace sA0 := Nat.lt_of_lt_of_le sA0 hb.size
    replace bw := bw.all hb
    replace bX0 := bX0.all hb
    replace bg := bg.all hb
    replace Eg := data_below Eg hb
    replace Rw := data_keep Rw (hb.mono Zt2) (Nat.le_refl _)
    replace Zt2 := Nat.le_trans Zt2 hb.size
    replace Zt3 := Nat.le_trans Zt3 hb.size
    replace Zt4 := Nat.le_trans Zt4 hb.size
    replace Zt5 := Nat.le_trans Zt5 hb.size
    replace Zt6 := Nat.le_trans Zt6 hb.size
    replace Zt7 := Nat.le_trans Zt7 hb.size
    clear hb
    have bA0c0 := bA0.cell 0
    have bA0c1 := bA0.cell 1
    have bA0c2 := bA0.cell 2
    have bwc0 := bw.cell 0
    have bwc1 := bw.cell 1
    have bX0c0 := bX0.cell 0
    have bX0c1 := bX0.cell 1
    have bX0c2 := bX0.cell 2
    have bgc0 := bg.cell 0
    have bgc1 := bg.cell 1
    have bwlt := bw.lt
    have bX0lt := bX0.lt
    have bglt := bg.lt
    go_wp2_with fail
    clear bA0c0 bA0c1 bA0c2 bwc0 bwc1 bX0c0 bX0c1 bX0c2 bgc0 bgc1 bwlt bX0lt bglt
    refine (data_mark _ _ y0 _ 1 Eg (by omega) (by omega) (by omega)).mono ?_
    rintro e t12 ⟨rfl, he, hw⟩
    have hbb := hw.below (B := t5.heap.size) (fun b hf => hf.1) Zt5
    replace kw := kw.trans (hbb.mono Kt5)
    replace bA0 := bA0.below hbb (by omega)
    replace sA0 := Nat.lt_of_lt_of_le sA0 hw.size
    replace bw := hw.blk bw (fun hf => by have a1 := hf.1; have a2 := hf.2; omega)
    replace bX0 := hw.blk bX0 (fun hf => by have a1 := hf.1; have a2 := hf.2; omega)
    replace bg := hw.blk bg (fun hf => by have a1 := hf.1; have a2 := hf.2; omega)
    replace Rw := data_keep Rw (hbb.mono (by omega)) (Nat.le_refl _)
    replace Zt2 := Nat.le_trans Zt2 hw.size
    replace Zt3 := Nat.le_trans Zt3 hw.size
    replace Zt4 := Nat.le_trans Zt4 hw.size
    replace Zt5 := Nat.le_trans Zt5 hw.size
    replace Zt6 := Nat.le_trans Zt6 hw.size
    replace Zt7 := Nat.le_trans Zt7 hw.size
    replace Eg := he
    clear hbb hw he
    obtain ⟨mm, hmm, hmma, hmmb⟩ : ∃ z : Int, 1 + (data_sum y0 : Int) = z ∧ 0 ≤ z ∧ z ≤ 4000000 := ⟨_, rfl, by omega, by omega⟩
    rw [hmm]
    have Hmm := hide hmm
    clear hmm
    have bA0c0 := bA0.cell 0
    have bA0c1 := bA0.cell 1
    have bA0c2 := bA0.cell 2
    have bwc0 := bw.cell 0
    have bwc1 := bw.cell 1
    have bX0c0 := bX0.cell 0
    have bX0c1 := bX0.cell 1
    have bX0c2 := bX0.cell 2
    have bgc0 := bg.cell 0
    have bgc1 := bg.cell 1
    have bwlt := bw.lt
    have bX0lt := bX0.lt
    have bglt := bg.lt
    go_wp2_with fail
    clear bA0c0 bA0c1 bA0c2 bwc0 bwc1 bX0c0 bX0c1 bX0c2 bgc0 bgc1 bwlt bX0lt bglt
    refine (data_heldc _ _ _ 1 (data_rd Eg) (data_shmk SY) (by omega) (by omega)).mono ?_
    rw [data_heldmk1, Hmm.out]
    rintro e t13 ⟨rfl, hb⟩
    replace kw := kw.trans (hb.mono kw.size)
    replace bA0 := bA0.all hb
    replace sA0 := Nat.lt_of_lt_of_le sA0 hb.size
    replace bw := bw.all hb
    replace bX0 := bX0.all hb
    replace bg := bg.all hb
    replace Eg := data_below Eg hb
    replace Rw := data_keep Rw (hb.mono Zt2) (Nat.le_refl _)
    replace Zt2 := Nat.le_trans Zt2 hb.size
    replace Zt3 := Nat.le_trans Zt3 hb.size
    replace Zt4 := Nat.le_trans Zt4 hb.size
    replace Zt5 := Nat.le_trans Zt5 hb.size
    replace Zt6 := Nat.le_trans Zt6 hb.size
    replace Zt7 := Nat.le_trans Zt7 hb.size
    clear hb
    have bA0c0 := bA0.cell 0
    have bA0c1 := bA0.cell 1
    have bA0c2 := bA0.cell 2
    have bwc0 := bw.cell 0
    have bwc1 := bw.cell 1
    have bX0c0 := bX0.cell 0
    have bX0c1 := bX0.cell 1
    have bX0c2 := bX0.cell 2
    have bgc0 := bg.cell 0
    have bgc1 := bg.cell 1
    have bwlt := bw.lt
    have bX0lt := bX0.lt
    have bglt := bg.lt
    go_wp2_with fail
    clear bA0c0 bA0c1 bA0c2 bwc0 bwc1 bX0c0 bX0c1 bX0c2 bgc0 bgc1 bwlt bX0lt bglt
    refine (metric_to _ _ x0 (metric_keep HA0 kw kw.size) SH0).mono ?_
    rintro e t14 ⟨u, rfl, he, hb⟩
    obtain ⟨Ah0, nh0, ch0, zh0, Dh0, mh0, eh0, rfl, hf⟩ := metric_form (metric_rd he)
    clear hf
    have hbs := hb.size
    replace kw := kw.trans (hb.mono kw.size)
    replace bA0 := bA0.all hb
    replace sA0 := Nat.lt_of_lt_of_le sA0 hb.size
    replace bw := bw.all hb
    replace bX0 := bX0.all hb
    replace bg := bg.all hb
    replace Eg := data_below Eg hb
    replace Rw := data_keep Rw (hb.mono Zt2) (Nat.le_refl _)
    replace Zt2 := Nat.le_trans Zt2 hb.size
    replace Zt3 := Nat.le_trans Zt3 hb.size
    replace Zt4 := Nat.le_trans Zt4 hb.size
    replace Zt5 := Nat.le_trans Zt5 hb.size
    replace Zt6 := Nat.le_trans Zt6 hb.size
    replace Zt7 := Nat.le_trans Zt7 hb.size
    clear hb
    clear hbs
    have Eh0 := he
    clear he
    have bA0c0 := bA0.cell 0
    have bA0c1 := bA0.cell 1
    have bA0c2 := bA0.cell 2
    have bwc0 := bw.cell 0
    have bwc1 := bw.cell 1
    have bX0c0 := bX0.cell 0
    have bX0c1 := bX0.cell 1
    have bX0c2 := bX0.cell 2
    have bgc0 := bg.cell 0
    have bgc1 := bg.cell 1
    have bwlt := bw.lt
    have bX0lt := bX0.lt
    have bglt := bg.lt
    go_wp2_with fail
    clear bA0c0 bA0c1 bA0c2 bwc0 bwc1 bX0c0 bX0c1 bX0c2 bgc0 bgc1 bwlt bX0lt bglt
    have hcl := (implDt_c t14 _ x0 (metric_rd Eh0) SH0)
    rw [HY0.out, HY1.out] at hcl
    have HCL := hide hcl
    clear hcl
    refine HCL.out.mono ?_
    rintro e t15 ⟨u, rfl, he, hb⟩
    clear HCL
    obtain ⟨Ah, nh, ch, Dh, mh, eh, rfl, hf⟩ := data_form (data_rd he)
    clear hf
    replace kw := kw.trans (hb.mono kw.size)
    replace bA0 := bA0.all hb
    replace sA0 := Nat.lt_of_lt_of_le sA0 hb.size
    replace bw := bw.all hb
    replace bX0 := bX0.all hb
    replace bg := bg.all hb
    replace Eg := data_below Eg hb
    replace Eh0 := metric_below Eh0 hb
    replace Rw := data_keep Rw (hb.mono Zt2) (Nat.le_refl _)
    replace Zt2 := Nat.le_trans Zt2 hb.size
    replace Zt3 := Nat.le_trans Zt3 hb.size
    replace Zt4 := Nat.le_trans Zt4 hb.size
    replace Zt5 := Nat.le_trans Zt5 hb.size
    replace Zt6 := Nat.le_trans Zt6 hb.size
    replace Zt7 := Nat.le_trans Zt7 hb.size
    clear hb
    have Eh := he
    clear he
    obtain ⟨Xh, hXh⟩ : ∃ X, t15.heap.size = X := ⟨_, rfl⟩
    have Ot2t15 := Zt2
    have Ot3t15 := Zt3
    have Ot4t15 := Zt4
    have Ot5t15 := Zt5
    have Ot6t15 := Zt6
    have Ot7t15 := Zt7
    have SA0t15 := sA0
    have Gbwt15 := bw.lt
    have GbX0t15 := bX0.lt
    have Gbgt15 := bg.lt
    have Kt15 := kw.size
    have Zt15 := Nat.le_refl t15.heap.size
    have bwl2 : Xw < Xh := by have := bw.lt; omega
    have bX0l2 : X0 < Xh := by have := bX0.lt; omega
    have bgl2 : Xg < Xh := by have := bg.lt; omega
    have sA0l2 : w.heap.size < Xh := by omega
    have bA0c0 := bA0.cell 0
    have bA0c1 := bA0.cell 1
    have bA0c2 := bA0.cell 2
    have bwc0 := bw.cell 0
    have bwc1 := bw.cell 1
    have bX0c0 := bX0.cell 0
    have bX0c1 := bX0.cell 1
    have bX0c2 := bX0.cell 2
    have bgc0 := bg.cell 0
    have bgc1 := bg.cell 1
    have bwlt := bw.lt
    have bX0lt := bX0.lt
    have bglt := bg.lt
    go_wp2_with fail
    clear bA0c0 bA0c1 bA0c2 bwc0 bwc1 bX0c0 bX0c1 bX0c2 bgc0 bgc1 bwlt bX0lt bglt
    clear bwl2 bX0l2 bgl2 sA0l2
    obtain ⟨t16, ht16⟩ : ∃ w5, t15.alloc (.cells #[.slice Ah nh ch, .slice Dh mh eh] 28) = w5 := ⟨_, rfl⟩
    have hb : Below t15.heap.size t15 t16 := by rw [← ht16]; exact (Below.refl _ _).alloc (Nat.le_refl _) _
    have bh : Blk t16 Xh 28 #[.slice Ah nh ch, .slice Dh mh eh] := by rw [← ht16]; exact Blk.new' _ _ _ _ hXh
    rw [ht16]
    clear ht16
    replace kw := kw.trans (hb.mono kw.size)
    replace bA0 := bA0.all hb
    replace sA0 := Nat.lt_of_lt_of_le sA0 hb.size
    replace bw := bw.all hb
    replace bX0 := bX0.all hb
    replace bg := bg.all hb
    replace Eg := data_below Eg hb
    replace Eh0 := metric_below Eh0 hb
    replace Eh := data_below Eh hb
    replace Rw := data_keep Rw (hb.mono Zt2) (Nat.le_refl _)
    replace Zt2 := Nat.le_trans Zt2 hb.size
    replace Zt3 := Nat.le_trans Zt3 hb.size
    replace Zt4 := Nat.le_trans Zt4 hb.size
    replace Zt5 := Nat.le_trans Zt5 hb.size
    replace Zt6 := Nat.le_trans Zt6 hb.size
    replace Zt7 := Nat.le_trans Zt7 hb.size
    replace Zt15 := Nat.le_trans Zt15 hb.size
    clear hb
    have Ot2t16 := Zt2
    have Ot3t16 := Zt3
    have Ot4t16 := Zt4
    have Ot5t16 := Zt5
    have Ot6t16 := Zt6
    have Ot7t16 := Zt7
    have Ot15t16 := Zt15
    have SA0t16 := sA0
    have Gbwt16 := bw.lt
    have GbX0t16 := bX0.lt
    have Gbgt16 := bg.lt
    have Gbht16 := bh.lt
    have Kt16 := kw.size
    have Zt16 := Nat.le_refl t16.heap.size
    refine (data_eq _ _ _ y0 y0 (data_rd Eh) (data_keep Rw (Below.refl _ _) Zt2) SY).mono ?_
    rintro e t17 ⟨rfl, hb⟩
    simp only [beq_self_eq_true]
    replace kw := kw.trans (hb.mono kw.size)
    replace bA0 := bA0.all hb
    replace sA0 := Nat.lt_of_lt_of_le sA0 hb.size
    replace bw := bw.all hb
    replace bX0 := bX0.all hb
    replace bg := bg.all hb
    replace bh := bh.all hb
    replace Eg := data_below Eg hb
    replace Eh0 := metric_below Eh0 hb
    replace Eh := data_below Eh hb
    replace Rw := data_keep Rw (hb.mono Zt2) (Nat.le_refl _)
    replace Zt2 := Nat.le_trans Zt2 hb.size
    replace Zt3 := Nat.le_trans Zt3 hb.size
    replace Zt4 := Nat.le_trans Zt4 hb.size
    replace Zt5 := Nat.le_trans Zt5 hb.size
    replace Zt6 := Nat.le_trans Zt6 hb.size
    replace Zt7 := Nat.le_trans Zt7 hb.size
    replace Zt15 := Nat.le_trans Zt15 hb.size
    replace Zt16 := Nat.le_trans Zt16 hb.size
    clear hb
    have bA0c0 := bA0.cell 0
    have bA0c1 := bA0.cell 1
    have bA0c2 := bA0.cell 2
    have bwc0 := bw.cell 0
    have bwc1 := bw.cell 1
    have bX0c0 := bX0.cell 0
    have bX0c1 := bX0.cell 1
    have bX0c2 := bX0.cell 2
    have bgc0 := bg.cell 0
    have bgc1 := bg.cell 1
    have bhc0 := bh.cell 0
    have bhc1 := bh.cell 1
    have bwlt := bw.lt
    have bX0lt := bX0.lt
    have bglt := bg.lt
    have bhlt := bh.lt
    go_wp2_with fail
    clear bA0c0 bA0c1 bA0c2 bwc0 bwc1 bX0c0 bX0c1 bX0c2 bgc0 bgc1 bhc0 bhc1 bwlt bX0lt bglt bhlt
    refine (data_heldc _ _ _ 1 (data_rd Eg) (data_shmk SY) (by omega) (by omega)).mono ?_
    rw [data_heldmk1, Hmm.out]
    rintro e t18 ⟨rfl, hb⟩
    replace kw := kw.trans (hb.mono kw.size)
    replace bA0 := bA0.all hb
    replace sA0 := Nat.lt_of_lt_of_le sA0 hb.size
    replace bw := bw.all hb
    replace bX0 := bX0.all hb
    replace bg := bg.all hb
    replace bh := bh.all hb
    replace Eg := data_below Eg hb
    replace Eh0 := metric_below Eh0 hb
    replace Eh := data_below Eh hb
    replace Rw := data_keep Rw (hb.mono Zt2) (Nat.le_refl _)
    replace Zt2 := Nat.le_trans Zt2 hb.size
    replace Zt3 := Nat.le_trans Zt3 hb.size
    replace Zt4 := Nat.le_trans Zt4 hb.size
    replace Zt5 := Nat.le_trans Zt5 hb.size
    replace Zt6 := Nat.le_trans Zt6 hb.size
    replace Zt7 := Nat.le_trans Zt7 hb.size
    replace Zt15 := Nat.le_trans Zt15 hb.size
    replace Zt16 := Nat.le_trans Zt16 hb.size
    clear hb
    go_wp2_with fail
    go_ret
    exact ⟨rfl, kw⟩
end Go.Proofs.Ytlhfjfpgoaiijaa
