
/- MetricText of both sides, and its law. -/
import Derived.Test.YtlekbkjkkoefnaaDoorMT3
import Derived.Test.YtlekbkjkkoefnaaDoorEa
import Derived.Test.YtlekbkjkkoefnaaDoorMWL
namespace Go.Proofs.YtlekbkjkkoefnaaDoor
open Go Go.RowKit Go.Shelf Grp
set_option linter.unusedSimpArgs false
set_option linter.unusedVariables false
set_option maxRecDepth 100000
/-- What both return. -/
noncomputable def mtT (os : List Int) (D : Int) (vs : List Int) : ByteArray := if isM os D vs = true then metText os D vs else ⟨#[]⟩
set_option maxHeartbeats 2000000 in
theorem spec_MT_any (w : World) (A : Option Addr) (n c : Nat) (os : List Int) (D : Int) (A' : Option Addr) (n' c' : Nat) (vs : List Int) (h : Sl w w.heap.size A n c os) (h' : Sl w w.heap.size A' n' c' vs) (hn : n ≤ 1048576) (hn' : n' ≤ 1048576) :
    Calls Tryd.prog 27 #[.agg #[.slice A n c, .int .i64 D, .slice A' n' c']] w (Re w (.tuple #[.string (mtT os D vs), .int .i64 (codeM os D vs)])) := by
  cases hm : isM os D vs with
  | false =>
    have hC := hide (show codeM os D vs = 1 by unfold codeM; rw [hm]; rfl)
    have hR := hide (show mtT os D vs = ⟨#[]⟩ by unfold mtT; rw [hm]; rfl)
    go_enter Tryd.func27, Tryd.ntmps27
    go_wp2_with fail
    obtain ⟨W, hW⟩ : ∃ W, w.alloc (.cells #[.slice A n c, .int .i64 D, .slice A' n' c'] 28) = W := ⟨_, rfl⟩
    have hbW : Below w.heap.size w W := by rw [← hW]; exact (by repeat (first | assumption | exact Below.refl _ _ | apply below_drewN | apply Below.drew | apply Below.alloc | apply Below.setCell | omega | (focus (simp; done)) | (focus (simp; omega))))
    have hszW : w.heap.size < W.heap.size := by rw [← hW]; simp
    have q0 : W.cell? ⟨w.heap.size, 0, none⟩ = some (.slice A n c) := by rw [← hW]; exact (Blk.new _ _ _).cell 0
    have q1 : W.cell? ⟨w.heap.size, 1, none⟩ = some (.int .i64 D) := by rw [← hW]; exact (Blk.new _ _ _).cell 1
    have q2 : W.cell? ⟨w.heap.size, 2, none⟩ = some (.slice A' n' c') := by rw [← hW]; exact (Blk.new _ _ _).cell 2
    rw [hW]
    clear hW
    have hs := (h.below hbW).more (Nat.le_of_lt hszW)
    have hs' := (h'.below hbW).more (Nat.le_of_lt hszW)
    go_wp2_with fail
    refine (l10Is_v false _ _ _ _ _ _ _ _ _ _ hs hs' hn hn' hm).mono ?_
    rintro e w2 ⟨rfl, hb2⟩
    go_wp2_with fail
    refine bodyPost_ret (v := .tuple #[.string ⟨#[]⟩, .int .i64 1]) (by simp [results, Tryd.results27, go_sem]) rfl ?_
    exact ⟨by rw [hC.out, hR.out], hbW.trans (hb2.mono (Nat.le_of_lt hszW))⟩
  | true =>
    have hM := isM_iff.1 hm
    have hC := hide (show codeM os D vs = 0 by unfold codeM; rw [hm]; rfl)
    have hR := hide (show mtT os D vs = metText os D vs by unfold mtT; rw [hm]; rfl)
    have hok := hM.ok
    have d1 := hok.d1
    have d2 := hok.d2
    have hD : i64ok D := ⟨by omega, by omega⟩
    have o1 : ∀ x ∈ os, i64ok x := fun x hx => by have := hok.g.m2 x hx; have := hok.g.m16 x hx; exact ⟨by omega, by omega⟩
    have o2 : ∀ x ∈ os, 0 ≤ x := fun x hx => by have := hok.g.m2 x hx; omega
    have v1 : ∀ x ∈ vs, i64ok x := fun x hx => by have := hok.rng x hx; exact ⟨by omega, by omega⟩
    have v2 : ∀ x ∈ vs, 0 ≤ x := fun x hx => (hok.rng x hx).1
    go_enter Tryd.func27, Tryd.ntmps27
    go_wp2_with fail
    obtain ⟨W, hW⟩ : ∃ W, w.alloc (.cells #[.slice A n c, .int .i64 D, .slice A' n' c'] 28) = W := ⟨_, rfl⟩
    have hbW : Below w.heap.size w W := by rw [← hW]; exact (by repeat (first | assumption | exact Below.refl _ _ | apply below_drewN | apply Below.drew | apply Below.alloc | apply Below.setCell | omega | (focus (simp; done)) | (focus (simp; omega))))
    have hszW : w.heap.size < W.heap.size := by rw [← hW]; simp
    have q0 : W.cell? ⟨w.heap.size, 0, none⟩ = some (.slice A n c) := by rw [← hW]; exact (Blk.new _ _ _).cell 0
    have q1 : W.cell? ⟨w.heap.size, 1, none⟩ = some (.int .i64 D) := by rw [← hW]; exact (Blk.new _ _ _).cell 1
    have q2 : W.cell? ⟨w.heap.size, 2, none⟩ = some (.slice A' n' c') := by rw [← hW]; exact (Blk.new _ _ _).cell 2
    rw [hW]
    clear hW
    have hs := (h.below hbW).more (Nat.le_of_lt hszW)
    have hs' := (h'.below hbW).more (Nat.le_of_lt hszW)
    go_wp2_with fail
    refine (l10Is_v true _ _ _ _ _ _ _ _ _ _ hs hs' hn hn' hm).mono ?_
    rintro e w2 ⟨rfl, hb2⟩
    have r0 := (hb2.cell (p := ⟨w.heap.size, 0, none⟩) hszW).trans q0
    have r1 := (hb2.cell (p := ⟨w.heap.size, 1, none⟩) hszW).trans q1
    have r2 := (hb2.cell (p := ⟨w.heap.size, 2, none⟩) hszW).trans q2
    have hbx := hbW.trans (hb2.mono (Nat.le_of_lt hszW))
    go_wp2_with fail
    refine (l10Text_any _ _ _ _ _ _ _ _ _ _ ((h.below hbx).more hbx.size) ((h'.below hbx).more hbx.size) o1 v1 hD o2 v2 (by omega) hn hn').mono ?_
    rintro e w3 ⟨rfl, hb3⟩
    go_wp2_with fail
    refine bodyPost_ret (v := .tuple #[.string (metText os D vs), .int .i64 0]) (by simp [results, Tryd.results27, go_sem]) rfl ?_
    exact ⟨by rw [hC.out, hR.out], hbx.trans (hb3.mono hbx.size)⟩
set_option maxHeartbeats 2000000 in
theorem impl_MT_any (w : World) (A : Option Addr) (n c : Nat) (os : List Int) (D : Int) (A' : Option Addr) (n' c' : Nat) (vs : List Int) (h : Sl w w.heap.size A n c os) (h' : Sl w w.heap.size A' n' c' vs) (hn : n ≤ 1048576) (hn' : n' ≤ 1048576) (hT : TbP w) :
    Calls Tryd.prog 28 #[.agg #[.slice A n c, .int .i64 D, .slice A' n' c']] w (Re w (.tuple #[.string (mtT os D vs), .int .i64 (codeM os D vs)])) := by
  cases hm : isM os D vs with
  | false =>
    have hC := hide (show codeM os D vs = 1 by unfold codeM; rw [hm]; rfl)
    have hR := hide (show mtT os D vs = ⟨#[]⟩ by unfold mtT; rw [hm]; rfl)
    go_enter Tryd.func28, Tryd.ntmps28
    go_wp2_with fail
    obtain ⟨W, hW⟩ : ∃ W, w.alloc (.cells #[.slice A n c, .int .i64 D, .slice A' n' c'] 28) = W := ⟨_, rfl⟩
    have hbW : Below w.heap.size w W := by rw [← hW]; exact (by repeat (first | assumption | exact Below.refl _ _ | apply below_drewN | apply Below.drew | apply Below.alloc | apply Below.setCell | omega | (focus (simp; done)) | (focus (simp; omega))))
    have hszW : w.heap.size < W.heap.size := by rw [← hW]; simp
    have q0 : W.cell? ⟨w.heap.size, 0, none⟩ = some (.slice A n c) := by rw [← hW]; exact (Blk.new _ _ _).cell 0
    have q1 : W.cell? ⟨w.heap.size, 1, none⟩ = some (.int .i64 D) := by rw [← hW]; exact (Blk.new _ _ _).cell 1
    have q2 : W.cell? ⟨w.heap.size, 2, none⟩ = some (.slice A' n' c') := by rw [← hW]; exact (Blk.new _ _ _).cell 2
    rw [hW]
    clear hW
    have hs := (h.below hbW).more (Nat.le_of_lt hszW)
    have hs' := (h'.below hbW).more (Nat.le_of_lt hszW)
    go_wp2_with fail
    refine (implIs_v false _ _ _ _ _ _ _ _ _ _ hs hs' hn hn' hm).mono ?_
    rintro e w2 ⟨rfl, hb2⟩
    go_wp2_with fail
    refine bodyPost_ret (v := .tuple #[.string ⟨#[]⟩, .int .i64 1]) (by simp [results, Tryd.results28, go_sem]) rfl ?_
    exact ⟨by rw [hC.out, hR.out], hbW.trans (hb2.mono (Nat.le_of_lt hszW))⟩
  | true =>
    have hM := isM_iff.1 hm
    have hC := hide (show codeM os D vs = 0 by unfold codeM; rw [hm]; rfl)
    have hR := hide (show mtT os D vs = metText os D vs by unfold mtT; rw [hm]; rfl)
    have hok := hM.ok
    have d1 := hok.d1
    have d2 := hok.d2
    have hD : i64ok D := ⟨by omega, by omega⟩
    have o1 : ∀ x ∈ os, i64ok x := fun x hx => by have := hok.g.m2 x hx; have := hok.g.m16 x hx; exact ⟨by omega, by omega⟩
    have o2 : ∀ x ∈ os, 0 ≤ x := fun x hx => by have := hok.g.m2 x hx; omega
    have v1 : ∀ x ∈ vs, i64ok x := fun x hx => by have := hok.rng x hx; exact ⟨by omega, by omega⟩
    have v2 : ∀ x ∈ vs, 0 ≤ x := fun x hx => (hok.rng x hx).1
    go_enter Tryd.func28, Tryd.ntmps28
    go_wp2_with fail
    obtain ⟨W, hW⟩ : ∃ W, w.alloc (.cells #[.slice A n c, .int .i64 D, .slice A' n' c'] 28) = W := ⟨_, rfl⟩
    have hbW : Below w.heap.size w W := by rw [← hW]; exact (by repeat (first | assumption | exact Below.refl _ _ | apply below_drewN | apply Below.drew | apply Below.alloc | apply Below.setCell | omega | (focus (simp; done)) | (focus (simp; omega))))
    have hszW : w.heap.size < W.heap.size := by rw [← hW]; simp
    have q0 : W.cell? ⟨w.heap.size, 0, none⟩ = some (.slice A n c) := by rw [← hW]; exact (Blk.new _ _ _).cell 0
    have q1 : W.cell? ⟨w.heap.size, 1, none⟩ = some (.int .i64 D) := by rw [← hW]; exact (Blk.new _ _ _).cell 1
    have q2 : W.cell? ⟨w.heap.size, 2, none⟩ = some (.slice A' n' c') := by rw [← hW]; exact (Blk.new _ _ _).cell 2
    rw [hW]
    clear hW
    have hs := (h.below hbW).more (Nat.le_of_lt hszW)
    have hs' := (h'.below hbW).more (Nat.le_of_lt hszW)
    go_wp2_with fail
    refine (implIs_v true _ _ _ _ _ _ _ _ _ _ hs hs' hn hn' hm).mono ?_
    rintro e w2 ⟨rfl, hb2⟩
    have r0 := (hb2.cell (p := ⟨w.heap.size, 0, none⟩) hszW).trans q0
    have r1 := (hb2.cell (p := ⟨w.heap.size, 1, none⟩) hszW).trans q1
    have r2 := (hb2.cell (p := ⟨w.heap.size, 2, none⟩) hszW).trans q2
    have hbx := hbW.trans (hb2.mono (Nat.le_of_lt hszW))
    go_wp2_with fail
    refine (metricText_any _ _ _ _ _ _ _ _ _ _ ((h.below hbx).more hbx.size) ((h'.below hbx).more hbx.size) o1 v1 hD o2 v2 (by omega) hn hn' (hT.bel hbx)).mono ?_
    rintro e w3 ⟨rfl, hb3⟩
    go_wp2_with fail
    refine bodyPost_ret (v := .tuple #[.string (metText os D vs), .int .i64 0]) (by simp [results, Tryd.results28, go_sem]) rfl ?_
    exact ⟨by rw [hC.out, hR.out], hbx.trans (hb3.mono hbx.size)⟩
noncomputable def mtX (x : metric_T) : ByteArray := mtT x.1 x.2.1 x.2.2
theorem specMT_c (w : World) (v : Value) (x : metric_T) (h : metric_R w w.heap.size v x) (hs : metric_Sh x) :
    Calls Tryd.prog 27 #[v] w (Re w (.tuple #[.string (mtX x), .int .i64 (mK x)])) := by
  obtain ⟨A, n, c, D, m, e, rfl, h1, h2, h3⟩ := h
  have hs2 : x.1.length + x.2.2.length ≤ 1048576 := hs
  have l1 := h1.len
  have l2 := h2.len
  exact spec_MT_any w A n c x.1 x.2.1 D m e x.2.2 h1 h2 (by omega) (by omega)
theorem implMT_c (w : World) (v : Value) (x : metric_T) (h : metric_R w w.heap.size v x) (hs : metric_Sh x) (hT : TbP w) :
    Calls Tryd.prog 28 #[v] w (Re w (.tuple #[.string (mtX x), .int .i64 (mK x)])) := by
  obtain ⟨A, n, c, D, m, e, rfl, h1, h2, h3⟩ := h
  have hs2 : x.1.length + x.2.2.length ≤ 1048576 := hs
  have l1 := h1.len
  have l2 := h2.len
  exact impl_MT_any w A n c x.1 x.2.1 D m e x.2.2 h1 h2 (by omega) (by omega) hT
set_option maxHeartbeats 8000000 in
set_option maxRecDepth 100000 in
theorem law_MetricText {w : World} (hT : TbP w) (v0 : Value) (x0 : metric_T) (HA0 : metric_R w w.heap.size v0 x0) (HB0 : metric_Big x0) : Calls Tryd.prog 8 #[v0] w (Re w (.bool true)) := by
  obtain ⟨A0, n0, c0, z0, D0, m0, e0, rfl, hf⟩ := metric_form HA0
  clear hf
  by_cases q0 : (1048576 : Int) - (metric_tot x0 : Int) < 0
  · have HZ0 := hide (fun (W : World) (h : Below w.heap.size w W) => metric_sz W _ x0 1048576 (metric_keep HA0 h h.size) HB0 (by omega) (by omega))
    rw [szI_no q0] at HZ0
    go_enter Tryd.func8, Tryd.ntmps8
    go_wp2_with fail
    obtain ⟨W, hW⟩ : ∃ W, w.alloc (.cells #[.slice A0 n0 c0, .int .i64 z0, .slice D0 m0 e0] 24) = W := ⟨_, rfl⟩
    have kw : Below w.heap.size w W := by rw [← hW]; exact (by repeat (first | assumption | exact Below.refl _ _ | apply below_drewN | apply Below.drew | apply Below.alloc | apply Below.setCell | omega | (focus (simp; done)) | (focus (simp; omega))))
    have bA0 : Blk W (w.heap.size) 24 #[.slice A0 n0 c0, .int .i64 z0, .slice D0 m0 e0] := by rw [← hW]; exact (Blk.new' _ _ _ _ (by simp))
    have sA0 : w.heap.size < W.heap.size := bA0.lt
    rw [hW]
    clear hW
    refine (HZ0.out _ kw).mono ?_
    rintro e ws0 ⟨rfl, hb⟩
    replace kw := kw.trans (hb.mono kw.size)
    replace bA0 := bA0.all hb
    replace sA0 := Nat.lt_of_lt_of_le sA0 hb.size
    clear hb
    have bA0c0 := bA0.cell 0
    have bA0c1 := bA0.cell 1
    have bA0c2 := bA0.cell 2
    go_wp2_with fail
    clear bA0c0 bA0c1 bA0c2
    go_ret
    exact ⟨rfl, kw⟩
  · have HZ0 := hide (fun (W : World) (h : Below w.heap.size w W) => metric_sz W _ x0 1048576 (metric_keep HA0 h h.size) HB0 (by omega) (by omega))
    rw [szI_ok q0] at HZ0
    have HS0 : metric_tot x0 ≤ 1048576 := by omega
    obtain ⟨l1, el1⟩ : ∃ l, (1048576 : Int) - (metric_tot x0 : Int) = l := ⟨_, rfl⟩
    have bl1a : 0 ≤ l1 := by omega
    have bl1b : l1 ≤ 1048576 := by omega
    rw [el1] at HZ0
    clear el1 q0
    have SH0 := metric_sh HS0
    have SL0 := metric_sumle x0
    obtain ⟨y0, hy0⟩ : ∃ y : ByteArray, mtX x0 = y := ⟨_, rfl⟩
    have HY0 := hide hy0
    clear hy0
    obtain ⟨y1, hy1⟩ : ∃ y : Int, mK x0 = y := ⟨_, rfl⟩
    have HY1 := hide hy1
    clear hy1
    go_enter Tryd.func8, Tryd.ntmps8
    go_wp2_with fail
    obtain ⟨W, hW⟩ : ∃ W, w.alloc (.cells #[.slice A0 n0 c0, .int .i64 z0, .slice D0 m0 e0] 24) = W := ⟨_, rfl⟩
    have kw : Below w.heap.size w W := by rw [← hW]; exact (by repeat (first | assumption | exact Below.refl _ _ | apply below_drewN | apply Below.drew | apply Below.alloc | apply Below.setCell | omega | (focus (simp; done)) | (focus (simp; omega))))
    have bA0 : Blk W (w.heap.size) 24 #[.slice A0 n0 c0, .int .i64 z0, .slice D0 m0 e0] := by rw [← hW]; exact (Blk.new' _ _ _ _ (by simp))
    have sA0 : w.heap.size < W.heap.size := bA0.lt
    rw [hW]
    clear hW
    refine (HZ0.out _ kw).mono ?_
    rintro e ws0 ⟨rfl, hb⟩
    replace kw := kw.trans (hb.mono kw.size)
    replace bA0 := bA0.all hb
    replace sA0 := Nat.lt_of_lt_of_le sA0 hb.size
    clear hb
    have bA0c0 := bA0.cell 0
    have bA0c1 := bA0.cell 1
    have bA0c2 := bA0.cell 2
    go_wp2_with fail
    clear bA0c0 bA0c1 bA0c2
    refine (metric_to _ _ x0 (metric_keep HA0 kw kw.size) SH0).mono ?_
    rintro e t1 ⟨u, rfl, he, hb⟩
    obtain ⟨As0, ns0, cs0, zs0, Ds0, ms0, es0, rfl, hf⟩ := metric_form (metric_rd he)
    clear hf
    have hbs := hb.size
    replace kw := kw.trans (hb.mono kw.size)
    replace bA0 := bA0.all hb
    replace sA0 := Nat.lt_of_lt_of_le sA0 hb.size
    clear hb
    clear hbs
    have Es0 := he
    clear he
    have bA0c0 := bA0.cell 0
    have bA0c1 := bA0.cell 1
    have bA0c2 := bA0.cell 2
    go_wp2_with fail
    clear bA0c0 bA0c1 bA0c2
    have hcl := (specMT_c t1 _ x0 (metric_rd Es0) SH0)
    rw [HY0.out, HY1.out] at hcl
    have HCL := hide hcl
    clear hcl
    refine HCL.out.mono ?_
    rintro e t2 ⟨rfl, hb⟩
    clear HCL
    replace kw := kw.trans (hb.mono kw.size)
    replace bA0 := bA0.all hb
    replace sA0 := Nat.lt_of_lt_of_le sA0 hb.size
    replace Es0 := metric_below Es0 hb
    clear hb
    clear Es0
    have SA0t2 := sA0
    have Kt2 := kw.size
    have Zt2 := Nat.le_refl t2.heap.size
    have bA0c0 := bA0.cell 0
    have bA0c1 := bA0.cell 1
    have bA0c2 := bA0.cell 2
    go_wp2_with fail
    clear bA0c0 bA0c1 bA0c2
    refine (metric_to _ _ x0 (metric_keep HA0 kw kw.size) SH0).mono ?_
    rintro e t3 ⟨u, rfl, he, hb⟩
    obtain ⟨Ax0, nx0, cx0, zx0, Dx0, mx0, ex0, rfl, hf⟩ := metric_form (metric_rd he)
    clear hf
    have hbs := hb.size
    replace kw := kw.trans (hb.mono kw.size)
    replace bA0 := bA0.all hb
    replace sA0 := Nat.lt_of_lt_of_le sA0 hb.size
    replace Zt2 := Nat.le_trans Zt2 hb.size
    clear hb
    clear hbs
    have EX0 := he
    clear he
    have Ot2t3 := Zt2
    have SA0t3 := sA0
    have Kt3 := kw.size
    have Zt3 := Nat.le_refl t3.heap.size
    obtain ⟨X0, hX0⟩ : ∃ X, t3.heap.size = X := ⟨_, rfl⟩
    have sA0l2 : w.heap.size < X0 := by omega
    have bA0c0 := bA0.cell 0
    have bA0c1 := bA0.cell 1
    have bA0c2 := bA0.cell 2
    go_wp2_with fail
    clear bA0c0 bA0c1 bA0c2
    clear sA0l2
    obtain ⟨t4, ht4⟩ : ∃ w5, t3.alloc (.cells #[.slice Ax0 nx0 cx0, .int .i64 zx0, .slice Dx0 mx0 ex0] 28) = w5 := ⟨_, rfl⟩
    have hb : Below t3.heap.size t3 t4 := by rw [← ht4]; exact (Below.refl _ _).alloc (Nat.le_refl _) _
    have bX0 : Blk t4 X0 28 #[.slice Ax0 nx0 cx0, .int .i64 zx0, .slice Dx0 mx0 ex0] := by rw [← ht4]; exact Blk.new' _ _ _ _ hX0
    rw [ht4]
    clear ht4
    replace kw := kw.trans (hb.mono kw.size)
    replace bA0 := bA0.all hb
    replace sA0 := Nat.lt_of_lt_of_le sA0 hb.size
    replace EX0 := metric_below EX0 hb
    replace Zt2 := Nat.le_trans Zt2 hb.size
    replace Zt3 := Nat.le_trans Zt3 hb.size
    clear hb
    have gX0 := bX0.lt
    have Ot2t4 := Zt2
    have Ot3t4 := Zt3
    have SA0t4 := sA0
    have GbX0t4 := bX0.lt
    have Kt4 := kw.size
    have Zt4 := Nat.le_refl t4.heap.size
    clear gX0
    have hcl := (implMT_c t4 _ x0 (metric_rd EX0) SH0 (hT.bel kw))
    rw [HY0.out, HY1.out] at hcl
    have HCL := hide hcl
    clear hcl
    refine HCL.out.mono ?_
    rintro e t5 ⟨rfl, hb⟩
    clear HCL
    replace kw := kw.trans (hb.mono kw.size)
    replace bA0 := bA0.all hb
    replace sA0 := Nat.lt_of_lt_of_le sA0 hb.size
    replace bX0 := bX0.all hb
    replace EX0 := metric_below EX0 hb
    replace Zt2 := Nat.le_trans Zt2 hb.size
    replace Zt3 := Nat.le_trans Zt3 hb.size
    replace Zt4 := Nat.le_trans Zt4 hb.size
    clear hb
    have Ot2t5 := Zt2
    have Ot3t5 := Zt3
    have Ot4t5 := Zt4
    have SA0t5 := sA0
    have GbX0t5 := bX0.lt
    have Kt5 := kw.size
    have Zt5 := Nat.le_refl t5.heap.size
    have bA0c0 := bA0.cell 0
    have bA0c1 := bA0.cell 1
    have bA0c2 := bA0.cell 2
    have bX0c0 := bX0.cell 0
    have bX0c1 := bX0.cell 1
    have bX0c2 := bX0.cell 2
    have bX0lt := bX0.lt
    go_wp2_with fail
    clear bA0c0 bA0c1 bA0c2 bX0c0 bX0c1 bX0c2 bX0lt
    have HXl := bX0.lt
    have HAl := bA0.lt
    have rA0 := bA0.cell 0
    have rX0 := bX0.cell 0
    have rA1 := bA0.cell 1
    have rX1 := bX0.cell 1
    have rA2 := bA0.cell 2
    have rX2 := bX0.cell 2
    refine wp_region_be [0, 1, 2, 3, 4] 5 t5.heap.size t5 (by kernel_rfl) (by kernel_rfl) (by kernel_rfl) (fun _ _ _ _ _ h => h) (Below.refl _ _) (fun wd hBe => ?_)
    repeat (first | (apply ord_tk rfl (by rfl) (by rfl) (by rfl); (focus (intro wx hSw; have r0 := (hSw.cell (p := ⟨w.heap.size, 0, none⟩) HAl).trans rA0; have r1 := (hSw.cell (p := ⟨w.heap.size, 1, none⟩) HAl).trans rA1; have r2 := (hSw.cell (p := ⟨w.heap.size, 2, none⟩) HAl).trans rA2; have s0 := (hSw.cell (p := ⟨X0, 0, none⟩) HXl).trans rX0; have s1 := (hSw.cell (p := ⟨X0, 1, none⟩) HXl).trans rX1; have s2 := (hSw.cell (p := ⟨X0, 2, none⟩) HXl).trans rX2; go_simp; (try with_reducible rfl))); (try simp only [Act.put, List.setIfInBounds_toArray, List.set_cons_zero, List.set_cons_succ])) | (apply ord_skip rfl (by rfl) (by rfl) (fun _ => hBe); (try simp only [Act.put, List.setIfInBounds_toArray, List.set_cons_zero, List.set_cons_succ])))
    refine ord_do rfl (by rfl) (by rfl) (fun K hK => ?_)
    go_simp
    have kq := kw.trans (hBe.mono kw.size)
    refine (metric_to _ _ x0 (metric_keep HA0 kq kq.size) SH0).mono ?_
    rintro e wq ⟨u, rfl, he, hb⟩
    obtain ⟨Ar0, nr0, cr0, zr0, Dr0, mr0, er0, rfl, hf⟩ := metric_form (metric_rd he)
    clear hf
    replace hBe := hBe.trans (hb.mono hBe.size)
    clear hb kq
    refine hK.out _ _ (fun _ => hBe) ?_
    (try simp only [Act.put, List.setIfInBounds_toArray, List.set_cons_zero, List.set_cons_succ])
    clear hK K
    repeat (first | (apply ord_tk rfl (by rfl) (by rfl) (by rfl); (focus (intro wx hSw; have r0 := (hSw.cell (p := ⟨w.heap.size, 0, none⟩) HAl).trans rA0; have r1 := (hSw.cell (p := ⟨w.heap.size, 1, none⟩) HAl).trans rA1; have r2 := (hSw.cell (p := ⟨w.heap.size, 2, none⟩) HAl).trans rA2; have s0 := (hSw.cell (p := ⟨X0, 0, none⟩) HXl).trans rX0; have s1 := (hSw.cell (p := ⟨X0, 1, none⟩) HXl).trans rX1; have s2 := (hSw.cell (p := ⟨X0, 2, none⟩) HXl).trans rX2; go_simp; (try with_reducible rfl))); (try simp only [Act.put, List.setIfInBounds_toArray, List.set_cons_zero, List.set_cons_succ])) | (apply ord_skip rfl (by rfl) (by rfl) (fun _ => hBe); (try simp only [Act.put, List.setIfInBounds_toArray, List.set_cons_zero, List.set_cons_succ])))
    refine ord_do rfl (by rfl) (by rfl) (fun K hK => ?_)
    go_simp
    refine (metric_eq _ _ _ x0 x0 (metric_rd (metric_below EX0 hBe)) (metric_rd he) SH0).mono ?_
    rintro e wd' ⟨rfl, hwd⟩
    replace hBe := hBe.trans (hwd.mono hBe.size)
    clear hwd
    refine hK.out _ _ (fun _ => hBe) ?_
    (try simp only [Act.put, List.setIfInBounds_toArray, List.set_cons_zero, List.set_cons_succ])
    clear hK K
    simp only [beq_self_eq_true]
    repeat (first | (apply ord_tk rfl (by rfl) (by rfl) (by rfl); (focus (intro wx hSw; have r0 := (hSw.cell (p := ⟨w.heap.size, 0, none⟩) HAl).trans rA0; have r1 := (hSw.cell (p := ⟨w.heap.size, 1, none⟩) HAl).trans rA1; have r2 := (hSw.cell (p := ⟨w.heap.size, 2, none⟩) HAl).trans rA2; have s0 := (hSw.cell (p := ⟨X0, 0, none⟩) HXl).trans rX0; have s1 := (hSw.cell (p := ⟨X0, 1, none⟩) HXl).trans rX1; have s2 := (hSw.cell (p := ⟨X0, 2, none⟩) HXl).trans rX2; go_simp; (try with_reducible rfl))); (try simp only [Act.put, List.setIfInBounds_toArray, List.set_cons_zero, List.set_cons_succ])) | (apply ord_skip rfl (by rfl) (by rfl) (fun _ => hBe); (try simp only [Act.put, List.setIfInBounds_toArray, List.set_cons_zero, List.set_cons_succ])))
    refine ord_nil ?_
    clear he HXl HAl rA0 rX0 rA1 rX1 rA2 rX2
    obtain ⟨t6, hnz⟩ : ∃ x, x = wd' := ⟨_, rfl⟩
    subst hnz
    have hb := hBe
    clear hBe
    replace kw := kw.trans (hb.mono kw.size)
    replace bA0 := bA0.all hb
    replace sA0 := Nat.lt_of_lt_of_le sA0 hb.size
    replace bX0 := bX0.all hb
    replace EX0 := metric_below EX0 hb
    replace Zt2 := Nat.le_trans Zt2 hb.size
    replace Zt3 := Nat.le_trans Zt3 hb.size
    replace Zt4 := Nat.le_trans Zt4 hb.size
    replace Zt5 := Nat.le_trans Zt5 hb.size
    clear hb
    go_wp2_with fail
    go_ret
    exact ⟨rfl, kw⟩
end Go.Proofs.YtlekbkjkkoefnaaDoor
