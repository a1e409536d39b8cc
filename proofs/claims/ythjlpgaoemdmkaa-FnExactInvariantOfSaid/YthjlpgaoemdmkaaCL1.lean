
/- The walks of IsCocycle, CocycleFault of both sides. -/
import Derived.Test.YthjlpgaoemdmkaaKC
import Derived.Test.YthjlpgaoemdmkaaCI3
import Derived.Test.YthjlpgaoemdmkaaCS4
import Derived.Lib.SliceRun
namespace Go.Proofs.Ythjlpgaoemdmkaa
open Go Go.RowKit Grp
set_option linter.unusedSimpArgs false
set_option linter.unusedVariables false
set_option maxRecDepth 100000

theorem shC_of {x : cocycle_T} (h : cocycle_Sh x) : ShC x.1 x.2.2 := by
  have h' : x.1.length + tot3 x.2.2 ≤ 1048576 := h
  have := sh3_of (t := x.2.2) (by omega)
  exact ⟨by omega, this⟩
set_option maxHeartbeats 4000000 in
theorem implIsCocycle_any (w : World) (A : Option Addr) (n c : Nat) (os : List Int) (M : Int) (D : Option Addr) (e f : Nat) (t : Tb) (h : Sl w w.heap.size A n c os) (h' : Sl3 w w.heap.size D e f t) (hm : i64ok M) (hs : ShC os t) :
    Calls Try.prog 34 #[.agg #[.slice A n c, .int .i64 M, .slice D e f]] w (Re w (.bool (ccB os M t))) := by
  obtain rfl := h.len
  obtain rfl := h'.len
  have hq := fun W A n c => Lib.run_eql_slice_nil (P := Try.prog) W 22 _ A n c 0 0 Try.underlying22
  cases hc : chB os M t with
  | false =>
    have HE := hide (ccB_1 hc)
    go_enter Try.func34, Try.ntmps34
    go_wp2_with fail
    obtain ⟨W, hW⟩ : ∃ W, w.alloc (.cells #[.slice A os.length c, .int .i64 M, .slice D t.length f] 25) = W := ⟨_, rfl⟩
    have hbW : Below w.heap.size w W := by rw [← hW]; exact (by repeat (first | assumption | exact Below.refl _ _ | apply below_drewN | apply Below.drew | apply Below.alloc | apply Below.setCell | omega | (focus (simp; done)) | (focus (simp; omega))))
    have hszW : w.heap.size < W.heap.size := by rw [← hW]; simp
    have hsW := hide (show W.heap.size = w.heap.size + 1 by rw [← hW]; simp)
    have q0 : W.cell? ⟨w.heap.size, 0, none⟩ = some (.slice A os.length c) := by rw [← hW]; exact (Blk.new _ _ _).cell 0
    have q1 : W.cell? ⟨w.heap.size, 1, none⟩ = some (.int .i64 M) := by rw [← hW]; exact (Blk.new _ _ _).cell 1
    have q2 : W.cell? ⟨w.heap.size, 2, none⟩ = some (.slice D t.length f) := by rw [← hW]; exact (Blk.new _ _ _).cell 2
    rw [hW]
    clear hW
    have HS := hide (isCochain_any W A os.length c os M D t.length f t ((h.below hbW).more (Nat.le_of_lt hszW)) ((h'.below hbW).more (Nat.le_of_lt hszW)) hm hs)
    refine HS.out.mono ?_
    rw [hc]
    rintro e' w1 ⟨rfl, hb⟩
    clear hc
    go_wp2_with fail
    go_ret
    exact ⟨by rw [HE.out]; rfl, hbW.trans (hb.mono (Nat.le_of_lt hszW))⟩
  | true =>
    have hC := chB_iff.1 hc
    obtain ⟨b, off, b1, o1, c1, b2, o2, c2, rfl, hV⟩ := view_of h' hC.pos hC.rows
    have HC := hide hc
    have hn8 := hC.le
    cases hn : nrB t with
    | false =>
      have HE := hide (ccB_2 (os := os) (m := M) hn)
      go_enter Try.func34, Try.ntmps34
      go_wp2_with fail
      obtain ⟨W, hW⟩ : ∃ W, w.alloc (.cells #[.slice A os.length c, .int .i64 M, .slice (some ⟨b, off, none⟩) t.length f] 25) = W := ⟨_, rfl⟩
      have hbW : Below w.heap.size w W := by rw [← hW]; exact (by repeat (first | assumption | exact Below.refl _ _ | apply below_drewN | apply Below.drew | apply Below.alloc | apply Below.setCell | omega | (focus (simp; done)) | (focus (simp; omega))))
      have hszW : w.heap.size < W.heap.size := by rw [← hW]; simp
      have hsW := hide (show W.heap.size = w.heap.size + 1 by rw [← hW]; simp)
      have q0 : W.cell? ⟨w.heap.size, 0, none⟩ = some (.slice A os.length c) := by rw [← hW]; exact (Blk.new _ _ _).cell 0
      have q1 : W.cell? ⟨w.heap.size, 1, none⟩ = some (.int .i64 M) := by rw [← hW]; exact (Blk.new _ _ _).cell 1
      have q2 : W.cell? ⟨w.heap.size, 2, none⟩ = some (.slice (some ⟨b, off, none⟩) t.length f) := by rw [← hW]; exact (Blk.new _ _ _).cell 2
      rw [hW]
      clear hW
      have HS := hide (isCochain_any W A os.length c os M _ t.length f t ((h.below hbW).more (Nat.le_of_lt hszW)) ((h'.below hbW).more (Nat.le_of_lt hszW)) hm hs)
      refine HS.out.mono ?_
      rw [hc]
      rintro e' w1 ⟨rfl, hb⟩
      have r0 := (hb.cell (p := ⟨w.heap.size, 0, none⟩) hszW).trans q0
      have r1 := (hb.cell (p := ⟨w.heap.size, 1, none⟩) hszW).trans q1
      have r2 := (hb.cell (p := ⟨w.heap.size, 2, none⟩) hszW).trans q2
      have hb1 := hbW.trans (hb.mono (Nat.le_of_lt hszW))
      have HNo := hide (isNormalised_any w1 A os.length c M f b off b1 o1 c1 b2 o2 c2 t w.heap.size (hV.le hb1) hb1.size hs.2.1)
      clear hc
      go_wp2_with fail
      clear r0 r1 r2
      refine HNo.out.mono ?_
      rw [hn]
      rintro e' w2 ⟨rfl, hb2⟩
      clear hn
      go_wp2_with fail
      go_ret
      exact ⟨by rw [HE.out]; rfl, hb1.trans (hb2.mono hb1.size)⟩
    | true =>
      have HN := hide hn
      go_enter Try.func34, Try.ntmps34
      go_wp2_with fail
      obtain ⟨W, hW⟩ : ∃ W, w.alloc (.cells #[.slice A os.length c, .int .i64 M, .slice (some ⟨b, off, none⟩) t.length f] 25) = W := ⟨_, rfl⟩
      have hbW : Below w.heap.size w W := by rw [← hW]; exact (by repeat (first | assumption | exact Below.refl _ _ | apply below_drewN | apply Below.drew | apply Below.alloc | apply Below.setCell | omega | (focus (simp; done)) | (focus (simp; omega))))
      have hszW : w.heap.size < W.heap.size := by rw [← hW]; simp
      have hsW := hide (show W.heap.size = w.heap.size + 1 by rw [← hW]; simp)
      have q0 : W.cell? ⟨w.heap.size, 0, none⟩ = some (.slice A os.length c) := by rw [← hW]; exact (Blk.new _ _ _).cell 0
      have q1 : W.cell? ⟨w.heap.size, 1, none⟩ = some (.int .i64 M) := by rw [← hW]; exact (Blk.new _ _ _).cell 1
      have q2 : W.cell? ⟨w.heap.size, 2, none⟩ = some (.slice (some ⟨b, off, none⟩) t.length f) := by rw [← hW]; exact (Blk.new _ _ _).cell 2
      rw [hW]
      clear hW
      have HS := hide (isCochain_any W A os.length c os M _ t.length f t ((h.below hbW).more (Nat.le_of_lt hszW)) ((h'.below hbW).more (Nat.le_of_lt hszW)) hm hs)
      refine HS.out.mono ?_
      rw [hc]
      rintro e' w1 ⟨rfl, hb⟩
      have r0 := (hb.cell (p := ⟨w.heap.size, 0, none⟩) hszW).trans q0
      have r1 := (hb.cell (p := ⟨w.heap.size, 1, none⟩) hszW).trans q1
      have r2 := (hb.cell (p := ⟨w.heap.size, 2, none⟩) hszW).trans q2
      have hb1 := hbW.trans (hb.mono (Nat.le_of_lt hszW))
      have HNo := hide (isNormalised_any w1 A os.length c M f b off b1 o1 c1 b2 o2 c2 t w.heap.size (hV.le hb1) hb1.size hs.2.1)
      clear hc
      go_wp2_with fail
      clear r0 r1 r2
      refine HNo.out.mono ?_
      rw [hn]
      rintro e' w2 ⟨rfl, hb2⟩
      have hbb := hb.trans (hb2.mono hb.size)
      have r0 := (hbb.cell (p := ⟨w.heap.size, 0, none⟩) hszW).trans q0
      have r1 := (hbb.cell (p := ⟨w.heap.size, 1, none⟩) hszW).trans q1
      have r2 := (hbb.cell (p := ⟨w.heap.size, 2, none⟩) hszW).trans q2
      have hb3 := hb1.trans (hb2.mono hb1.size)
      have HF := hide (cfault_any w2 A os.length c os M f b off b1 o1 c1 b2 o2 c2 t w.heap.size (hV.le hb3) hb3.size ((h.below hb3).more hb3.size) hs.1 hC)
      clear hn
      go_wp2_with fail
      clear r0 r1 r2
      refine HF.out.mono ?_
      intro e' w3 hmk
      cases hf : cfF os M t with
      | none =>
        have HE := hide (ccB_4 HC.out HN.out hf)
        rw [hf] at hmk
        obtain ⟨rfl, hb4⟩ := hmk.out_none
        clear hf hmk HF
        go_wp2_with fail
        go_ret
        exact ⟨by rw [HE.out]; rfl, hb3.trans (hb4.mono hb3.size)⟩
      | some xs =>
        have HE := hide (ccB_3 hf)
        rw [hf] at hmk
        obtain ⟨g, cap, rfl, ho, hb4⟩ := hmk.out_some
        clear hf hmk HF ho
        go_wp2_with fail
        go_ret
        exact ⟨by rw [HE.out]; rfl, hb3.trans (hb4.mono hb3.size)⟩
theorem implIsC_c (w : World) (v : Value) (x : cocycle_T) (h : cocycle_R w w.heap.size v x) (hs : cocycle_Sh x) : Calls Try.prog 34 #[v] w (Re w (.bool (ccB x.1 x.2.1 x.2.2))) := by
  obtain ⟨A, n, c, D, m, e, rfl, h1, h2, h3⟩ := h
  exact implIsCocycle_any w A n c _ _ D m e _ h1 h2 h3 (shC_of hs)
theorem specIsC_c (w : World) (v : Value) (x : cocycle_T) (h : cocycle_R w w.heap.size v x) (hs : cocycle_Sh x) : Calls Try.prog 32 #[v] w (Re w (.bool (ccB x.1 x.2.1 x.2.2))) := by
  obtain ⟨A, n, c, D, m, e, rfl, h1, h2, h3⟩ := h
  obtain ⟨os, M, t⟩ := x
  simp only at h1 h2 h3 ⊢
  go_enter Try.func32, Try.ntmps32
  go_wp2_with fail
  obtain ⟨W, hW⟩ : ∃ W, w.alloc (.cells #[.slice A n c, .int .i64 M, .slice D m e] 25) = W := ⟨_, rfl⟩
  have hbW : Below w.heap.size w W := by rw [← hW]; exact (by repeat (first | assumption | exact Below.refl _ _ | apply below_drewN | apply Below.drew | apply Below.alloc | apply Below.setCell | omega | (focus (simp; done)) | (focus (simp; omega))))
  have hszW : w.heap.size < W.heap.size := by rw [← hW]; simp
  have hsW := hide (show W.heap.size = w.heap.size + 1 by rw [← hW]; simp)
  have q0 : W.cell? ⟨w.heap.size, 0, none⟩ = some (.slice A n c) := by rw [← hW]; exact (Blk.new _ _ _).cell 0
  have q1 : W.cell? ⟨w.heap.size, 1, none⟩ = some (.int .i64 M) := by rw [← hW]; exact (Blk.new _ _ _).cell 1
  have q2 : W.cell? ⟨w.heap.size, 2, none⟩ = some (.slice D m e) := by rw [← hW]; exact (Blk.new _ _ _).cell 2
  rw [hW]
  clear hW
  refine (l17Is_any W A n c os M D m e t ((h1.below hbW).more (Nat.le_of_lt hszW)) ((h2.below hbW).more (Nat.le_of_lt hszW)) h3 (shC_of hs)).mono ?_
  rintro e' w1 ⟨rfl, hb⟩
  go_wp2_with fail
  go_ret
  exact ⟨rfl, hbW.trans (hb.mono (Nat.le_of_lt hszW))⟩
noncomputable def cfC (x : cocycle_T) : List Int := if chB x.1 x.2.1 x.2.2 = true then (if nrB x.2.2 = true then (cfF x.1 x.2.1 x.2.2).getD [] else []) else []
noncomputable def cfK (x : cocycle_T) : Int := if chB x.1 x.2.1 x.2.2 = true then (if nrB x.2.2 = true then (if (cfF x.1 x.2.1 x.2.2).isNone then 4 else 0) else 5) else 1
theorem cfC_0 {os : List Int} {M : Int} {t : Tb} (h : chB os M t = false) : cfC (os, M, t) = [] ∧ cfK (os, M, t) = 1 := by unfold cfC cfK; simp only; rw [h]; exact ⟨rfl, rfl⟩
theorem cfC_1 {os : List Int} {M : Int} {t : Tb} (h : chB os M t = true) (hn : nrB t = false) : cfC (os, M, t) = [] ∧ cfK (os, M, t) = 5 := by unfold cfC cfK; simp only; rw [h, hn]; exact ⟨rfl, rfl⟩
theorem cfC_2 {os : List Int} {M : Int} {t : Tb} (h : chB os M t = true) (hn : nrB t = true) (hf : cfF os M t = none) : cfC (os, M, t) = [] ∧ cfK (os, M, t) = 4 := by unfold cfC cfK; simp only; rw [h, hn, hf]; exact ⟨rfl, rfl⟩
theorem cfC_3 {os : List Int} {M : Int} {t : Tb} {xs : List Int} (h : chB os M t = true) (hn : nrB t = true) (hf : cfF os M t = some xs) : cfC (os, M, t) = xs ∧ cfK (os, M, t) = 0 := by unfold cfC cfK; simp only; rw [h, hn, hf]; exact ⟨rfl, rfl⟩
theorem cfC_tot (x : cocycle_T) : ints_tot (cfC x) ≤ 1048576 := by
  unfold cfC ints_tot
  split
  · rename_i h
    split
    · cases hf : cfF x.1 x.2.1 x.2.2 with
      | none => simp
      | some xs => have := (cfF_ok (chB_iff.1 h).le hf).1; simp; omega
    · simp
  · simp
set_option maxHeartbeats 4000000 in
theorem specCF_c (w : World) (v : Value) (x : cocycle_T) (h : cocycle_R w w.heap.size v x) (hs0 : cocycle_Sh x) : Calls Try.prog 39 #[v] w (MkEC ints_E w (cfC x) (cfK x)) := by
  obtain ⟨A, n, c, D, m, e, rfl, h, h', hm⟩ := h
  have hs := shC_of hs0
  obtain ⟨os, M, t⟩ := x
  simp only at h h' hm hs ⊢
  clear hs0
  obtain rfl := h.len
  obtain rfl := h'.len
  have hq := fun W A n c => Lib.run_eql_slice_nil (P := Try.prog) W 22 _ A n c 0 0 Try.underlying22
  cases hc : chB os M t with
  | false =>
    have HE := hide (cfC_0 hc)
    go_enter Try.func39, Try.ntmps39
    go_wp2_with fail
    obtain ⟨W, hW⟩ : ∃ W, w.alloc (.cells #[.slice A os.length c, .int .i64 M, .slice D t.length e] 25) = W := ⟨_, rfl⟩
    have hbW : Below w.heap.size w W := by rw [← hW]; exact (by repeat (first | assumption | exact Below.refl _ _ | apply below_drewN | apply Below.drew | apply Below.alloc | apply Below.setCell | omega | (focus (simp; done)) | (focus (simp; omega))))
    have hszW : w.heap.size < W.heap.size := by rw [← hW]; simp
    have hsW := hide (show W.heap.size = w.heap.size + 1 by rw [← hW]; simp)
    have q0 : W.cell? ⟨w.heap.size, 0, none⟩ = some (.slice A os.length c) := by rw [← hW]; exact (Blk.new _ _ _).cell 0
    have q1 : W.cell? ⟨w.heap.size, 1, none⟩ = some (.int .i64 M) := by rw [← hW]; exact (Blk.new _ _ _).cell 1
    have q2 : W.cell? ⟨w.heap.size, 2, none⟩ = some (.slice D t.length e) := by rw [← hW]; exact (Blk.new _ _ _).cell 2
    rw [hW]
    clear hW
    have HS := hide (l17Shape_any W A os.length c os M D t.length e t ((h.below hbW).more (Nat.le_of_lt hszW)) ((h'.below hbW).more (Nat.le_of_lt hszW)) hm hs)
    refine HS.out.mono ?_
    rw [hc]
    rintro e' w1 ⟨rfl, hb⟩
    clear hc
    go_wp2_with fail
    refine bodyPost_ret (v := .tuple #[.slice none 0 0, .int .i64 1]) (by simp [results, Try.results39, go_sem]) rfl ?_
    rw [HE.out.1, HE.out.2]
    exact ⟨_, rfl, E1.nil _ _ (fun _ h => h.2), hbW.trans (hb.mono (Nat.le_of_lt hszW))⟩
  | true =>
    have hC := chB_iff.1 hc
    obtain ⟨b, off, b1, o1, c1, b2, o2, c2, rfl, hV⟩ := view_of h' hC.pos hC.rows
    have HC := hide hc
    have hn8 := hC.le
    cases hn : nrB t with
    | false =>
      have HE := hide (cfC_1 (os := os) (M := M) HC.out hn)
      go_enter Try.func39, Try.ntmps39
      go_wp2_with fail
      obtain ⟨W, hW⟩ : ∃ W, w.alloc (.cells #[.slice A os.length c, .int .i64 M, .slice (some ⟨b, off, none⟩) t.length e] 25) = W := ⟨_, rfl⟩
      have hbW : Below w.heap.size w W := by rw [← hW]; exact (by repeat (first | assumption | exact Below.refl _ _ | apply below_drewN | apply Below.drew | apply Below.alloc | apply Below.setCell | omega | (focus (simp; done)) | (focus (simp; omega))))
      have hszW : w.heap.size < W.heap.size := by rw [← hW]; simp
      have hsW := hide (show W.heap.size = w.heap.size + 1 by rw [← hW]; simp)
      have q0 : W.cell? ⟨w.heap.size, 0, none⟩ = some (.slice A os.length c) := by rw [← hW]; exact (Blk.new _ _ _).cell 0
      have q1 : W.cell? ⟨w.heap.size, 1, none⟩ = some (.int .i64 M) := by rw [← hW]; exact (Blk.new _ _ _).cell 1
      have q2 : W.cell? ⟨w.heap.size, 2, none⟩ = some (.slice (some ⟨b, off, none⟩) t.length e) := by rw [← hW]; exact (Blk.new _ _ _).cell 2
      rw [hW]
      clear hW
      have HS := hide (l17Shape_any W A os.length c os M _ t.length e t ((h.below hbW).more (Nat.le_of_lt hszW)) ((h'.below hbW).more (Nat.le_of_lt hszW)) hm hs)
      refine HS.out.mono ?_
      rw [hc]
      rintro e' w1 ⟨rfl, hb⟩
      have r0 := (hb.cell (p := ⟨w.heap.size, 0, none⟩) hszW).trans q0
      have r1 := (hb.cell (p := ⟨w.heap.size, 1, none⟩) hszW).trans q1
      have r2 := (hb.cell (p := ⟨w.heap.size, 2, none⟩) hszW).trans q2
      have hb1 := hbW.trans (hb.mono (Nat.le_of_lt hszW))
      have HNo := hide (l17Normal_any w1 A os.length c M e b off b1 o1 c1 b2 o2 c2 t w.heap.size (hV.le hb1) hb1.size hs.2.1)
      clear hc
      go_wp2_with fail
      clear r0 r1 r2
      refine HNo.out.mono ?_
      rw [hn]
      rintro e' w2 ⟨rfl, hb2⟩
      clear hn
      go_wp2_with fail
      refine bodyPost_ret (v := .tuple #[.slice none 0 0, .int .i64 5]) (by simp [results, Try.results39, go_sem]) rfl ?_
      rw [HE.out.1, HE.out.2]
      exact ⟨_, rfl, E1.nil _ _ (fun _ h => h.2), hb1.trans (hb2.mono hb1.size)⟩
    | true =>
      have HN := hide hn
      go_enter Try.func39, Try.ntmps39
      go_wp2_with fail
      obtain ⟨W, hW⟩ : ∃ W, w.alloc (.cells #[.slice A os.length c, .int .i64 M, .slice (some ⟨b, off, none⟩) t.length e] 25) = W := ⟨_, rfl⟩
      have hbW : Below w.heap.size w W := by rw [← hW]; exact (by repeat (first | assumption | exact Below.refl _ _ | apply below_drewN | apply Below.drew | apply Below.alloc | apply Below.setCell | omega | (focus (simp; done)) | (focus (simp; omega))))
      have hszW : w.heap.size < W.heap.size := by rw [← hW]; simp
      have hsW := hide (show W.heap.size = w.heap.size + 1 by rw [← hW]; simp)
      have q0 : W.cell? ⟨w.heap.size, 0, none⟩ = some (.slice A os.length c) := by rw [← hW]; exact (Blk.new _ _ _).cell 0
      have q1 : W.cell? ⟨w.heap.size, 1, none⟩ = some (.int .i64 M) := by rw [← hW]; exact (Blk.new _ _ _).cell 1
      have q2 : W.cell? ⟨w.heap.size, 2, none⟩ = some (.slice (some ⟨b, off, none⟩) t.length e) := by rw [← hW]; exact (Blk.new _ _ _).cell 2
      rw [hW]
      clear hW
      have HS := hide (l17Shape_any W A os.length c os M _ t.length e t ((h.below hbW).more (Nat.le_of_lt hszW)) ((h'.below hbW).more (Nat.le_of_lt hszW)) hm hs)
      refine HS.out.mono ?_
      rw [hc]
      rintro e' w1 ⟨rfl, hb⟩
      have r0 := (hb.cell (p := ⟨w.heap.size, 0, none⟩) hszW).trans q0
      have r1 := (hb.cell (p := ⟨w.heap.size, 1, none⟩) hszW).trans q1
      have r2 := (hb.cell (p := ⟨w.heap.size, 2, none⟩) hszW).trans q2
      have hb1 := hbW.trans (hb.mono (Nat.le_of_lt hszW))
      have HNo := hide (l17Normal_any w1 A os.length c M e b off b1 o1 c1 b2 o2 c2 t w.heap.size (hV.le hb1) hb1.size hs.2.1)
      clear hc
      go_wp2_with fail
      clear r0 r1 r2
      refine HNo.out.mono ?_
      rw [hn]
      rintro e' w2 ⟨rfl, hb2⟩
      have hbb := hb.trans (hb2.mono hb.size)
      have r0 := (hbb.cell (p := ⟨w.heap.size, 0, none⟩) hszW).trans q0
      have r1 := (hbb.cell (p := ⟨w.heap.size, 1, none⟩) hszW).trans q1
      have r2 := (hbb.cell (p := ⟨w.heap.size, 2, none⟩) hszW).trans q2
      have hb3 := hb1.trans (hb2.mono hb1.size)
      have HF := hide (l17Fault_any w2 A os.length c os M e b off b1 o1 c1 b2 o2 c2 t (hV.keep hb3 hb3.size) ((h.below hb3).more hb3.size) hs.1 hC)
      clear hn
      go_wp2_with fail
      clear r0 r1 r2
      refine HF.out.mono ?_
      intro e' w3 hmk
      cases hf : cfF os M t with
      | none =>
        have HE := hide (cfC_2 HC.out HN.out hf)
        rw [hf] at hmk
        obtain ⟨rfl, hb4⟩ := hmk.out_none
        clear hf hmk HF
        go_wp2_with fail
        refine bodyPost_ret (v := .tuple #[.slice none 0 0, .int .i64 4]) (by simp [results, Try.results39, go_sem]) rfl ?_
        rw [HE.out.1, HE.out.2]
        exact ⟨_, rfl, E1.nil _ _ (fun _ h => h.2), hb3.trans (hb4.mono hb3.size)⟩
      | some xs =>
        have HE := hide (cfC_3 HC.out HN.out hf)
        have hok := cfF_ok hn8 hf
        rw [hf] at hmk
        obtain ⟨g, cap, rfl, ho, hb4⟩ := hmk.out_some
        have HX := hide (E1.of_ow ho (fun x hx => by have := hok.2 x hx; unfold i64ok; omega))
        have hl4 := hok.1
        rw [hl4] at HX ⊢
        have hlz : (((4 : Nat) : Int) == 0) = false := by decide
        clear hf hmk HF ho hok hl4
        go_wp2_with fail
        refine bodyPost_ret (v := .tuple #[.slice (some ⟨g, 0, none⟩) 4 cap, .int .i64 0]) (by simp [results, Try.results39, go_sem]) rfl ?_
        rw [HE.out.1, HE.out.2]
        exact ⟨_, rfl, HX.out.mono (fun b h => ⟨Nat.le_trans hb3.size h.1, h.2⟩) (fun _ h => h.2), hb3.trans (hb4.mono hb3.size)⟩
set_option maxHeartbeats 4000000 in
theorem implCF_c (w : World) (v : Value) (x : cocycle_T) (h : cocycle_R w w.heap.size v x) (hs0 : cocycle_Sh x) : Calls Try.prog 40 #[v] w (MkEC ints_E w (cfC x) (cfK x)) := by
  obtain ⟨A, n, c, D, m, e, rfl, h, h', hm⟩ := h
  have hs := shC_of hs0
  obtain ⟨os, M, t⟩ := x
  simp only at h h' hm hs ⊢
  clear hs0
  obtain rfl := h.len
  obtain rfl := h'.len
  have hq := fun W A n c => Lib.run_eql_slice_nil (P := Try.prog) W 22 _ A n c 0 0 Try.underlying22
  cases hc : chB os M t with
  | false =>
    have HE := hide (cfC_0 hc)
    go_enter Try.func40, Try.ntmps40
    go_wp2_with fail
    obtain ⟨W, hW⟩ : ∃ W, w.alloc (.cells #[.slice A os.length c, .int .i64 M, .slice D t.length e] 25) = W := ⟨_, rfl⟩
    have hbW : Below w.heap.size w W := by rw [← hW]; exact (by repeat (first | assumption | exact Below.refl _ _ | apply below_drewN | apply Below.drew | apply Below.alloc | apply Below.setCell | omega | (focus (simp; done)) | (focus (simp; omega))))
    have hszW : w.heap.size < W.heap.size := by rw [← hW]; simp
    have hsW := hide (show W.heap.size = w.heap.size + 1 by rw [← hW]; simp)
    have q0 : W.cell? ⟨w.heap.size, 0, none⟩ = some (.slice A os.length c) := by rw [← hW]; exact (Blk.new _ _ _).cell 0
    have q1 : W.cell? ⟨w.heap.size, 1, none⟩ = some (.int .i64 M) := by rw [← hW]; exact (Blk.new _ _ _).cell 1
    have q2 : W.cell? ⟨w.heap.size, 2, none⟩ = some (.slice D t.length e) := by rw [← hW]; exact (Blk.new _ _ _).cell 2
    rw [hW]
    clear hW
    have HS := hide (isCochain_any W A os.length c os M D t.length e t ((h.below hbW).more (Nat.le_of_lt hszW)) ((h'.below hbW).more (Nat.le_of_lt hszW)) hm hs)
    refine HS.out.mono ?_
    rw [hc]
    rintro e' w1 ⟨rfl, hb⟩
    clear hc
    go_wp2_with fail
    refine bodyPost_ret (v := .tuple #[.slice none 0 0, .int .i64 1]) (by simp [results, Try.results40, go_sem]) rfl ?_
    rw [HE.out.1, HE.out.2]
    exact ⟨_, rfl, E1.nil _ _ (fun _ h => h.2), hbW.trans (hb.mono (Nat.le_of_lt hszW))⟩
  | true =>
    have hC := chB_iff.1 hc
    obtain ⟨b, off, b1, o1, c1, b2, o2, c2, rfl, hV⟩ := view_of h' hC.pos hC.rows
    have HC := hide hc
    have hn8 := hC.le
    cases hn : nrB t with
    | false =>
      have HE := hide (cfC_1 (os := os) (M := M) HC.out hn)
      go_enter Try.func40, Try.ntmps40
      go_wp2_with fail
      obtain ⟨W, hW⟩ : ∃ W, w.alloc (.cells #[.slice A os.length c, .int .i64 M, .slice (some ⟨b, off, none⟩) t.length e] 25) = W := ⟨_, rfl⟩
      have hbW : Below w.heap.size w W := by rw [← hW]; exact (by repeat (first | assumption | exact Below.refl _ _ | apply below_drewN | apply Below.drew | apply Below.alloc | apply Below.setCell | omega | (focus (simp; done)) | (focus (simp; omega))))
      have hszW : w.heap.size < W.heap.size := by rw [← hW]; simp
      have hsW := hide (show W.heap.size = w.heap.size + 1 by rw [← hW]; simp)
      have q0 : W.cell? ⟨w.heap.size, 0, none⟩ = some (.slice A os.length c) := by rw [← hW]; exact (Blk.new _ _ _).cell 0
      have q1 : W.cell? ⟨w.heap.size, 1, none⟩ = some (.int .i64 M) := by rw [← hW]; exact (Blk.new _ _ _).cell 1
      have q2 : W.cell? ⟨w.heap.size, 2, none⟩ = some (.slice (some ⟨b, off, none⟩) t.length e) := by rw [← hW]; exact (Blk.new _ _ _).cell 2
      rw [hW]
      clear hW
      have HS := hide (isCochain_any W A os.length c os M _ t.length e t ((h.below hbW).more (Nat.le_of_lt hszW)) ((h'.below hbW).more (Nat.le_of_lt hszW)) hm hs)
      refine HS.out.mono ?_
      rw [hc]
      rintro e' w1 ⟨rfl, hb⟩
      have r0 := (hb.cell (p := ⟨w.heap.size, 0, none⟩) hszW).trans q0
      have r1 := (hb.cell (p := ⟨w.heap.size, 1, none⟩) hszW).trans q1
      have r2 := (hb.cell (p := ⟨w.heap.size, 2, none⟩) hszW).trans q2
      have hb1 := hbW.trans (hb.mono (Nat.le_of_lt hszW))
      have HNo := hide (isNormalised_any w1 A os.length c M e b off b1 o1 c1 b2 o2 c2 t w.heap.size (hV.le hb1) hb1.size hs.2.1)
      clear hc
      go_wp2_with fail
      clear r0 r1 r2
      refine HNo.out.mono ?_
      rw [hn]
      rintro e' w2 ⟨rfl, hb2⟩
      clear hn
      go_wp2_with fail
      refine bodyPost_ret (v := .tuple #[.slice none 0 0, .int .i64 5]) (by simp [results, Try.results40, go_sem]) rfl ?_
      rw [HE.out.1, HE.out.2]
      exact ⟨_, rfl, E1.nil _ _ (fun _ h => h.2), hb1.trans (hb2.mono hb1.size)⟩
    | true =>
      have HN := hide hn
      go_enter Try.func40, Try.ntmps40
      go_wp2_with fail
      obtain ⟨W, hW⟩ : ∃ W, w.alloc (.cells #[.slice A os.length c, .int .i64 M, .slice (some ⟨b, off, none⟩) t.length e] 25) = W := ⟨_, rfl⟩
      have hbW : Below w.heap.size w W := by rw [← hW]; exact (by repeat (first | assumption | exact Below.refl _ _ | apply below_drewN | apply Below.drew | apply Below.alloc | apply Below.setCell | omega | (focus (simp; done)) | (focus (simp; omega))))
      have hszW : w.heap.size < W.heap.size := by rw [← hW]; simp
      have hsW := hide (show W.heap.size = w.heap.size + 1 by rw [← hW]; simp)
      have q0 : W.cell? ⟨w.heap.size, 0, none⟩ = some (.slice A os.length c) := by rw [← hW]; exact (Blk.new _ _ _).cell 0
      have q1 : W.cell? ⟨w.heap.size, 1, none⟩ = some (.int .i64 M) := by rw [← hW]; exact (Blk.new _ _ _).cell 1
      have q2 : W.cell? ⟨w.heap.size, 2, none⟩ = some (.slice (some ⟨b, off, none⟩) t.length e) := by rw [← hW]; exact (Blk.new _ _ _).cell 2
      rw [hW]
      clear hW
      have HS := hide (isCochain_any W A os.length c os M _ t.length e t ((h.below hbW).more (Nat.le_of_lt hszW)) ((h'.below hbW).more (Nat.le_of_lt hszW)) hm hs)
      refine HS.out.mono ?_
      rw [hc]
      rintro e' w1 ⟨rfl, hb⟩
      have r0 := (hb.cell (p := ⟨w.heap.size, 0, none⟩) hszW).trans q0
      have r1 := (hb.cell (p := ⟨w.heap.size, 1, none⟩) hszW).trans q1
      have r2 := (hb.cell (p := ⟨w.heap.size, 2, none⟩) hszW).trans q2
      have hb1 := hbW.trans (hb.mono (Nat.le_of_lt hszW))
      have HNo := hide (isNormalised_any w1 A os.length c M e b off b1 o1 c1 b2 o2 c2 t w.heap.size (hV.le hb1) hb1.size hs.2.1)
      clear hc
      go_wp2_with fail
      clear r0 r1 r2
      refine HNo.out.mono ?_
      rw [hn]
      rintro e' w2 ⟨rfl, hb2⟩
      have hbb := hb.trans (hb2.mono hb.size)
      have r0 := (hbb.cell (p := ⟨w.heap.size, 0, none⟩) hszW).trans q0
      have r1 := (hbb.cell (p := ⟨w.heap.size, 1, none⟩) hszW).trans q1
      have r2 := (hbb.cell (p := ⟨w.heap.size, 2, none⟩) hszW).trans q2
      have hb3 := hb1.trans (hb2.mono hb1.size)
      have HF := hide (cfault_any w2 A os.length c os M e b off b1 o1 c1 b2 o2 c2 t w.heap.size (hV.le hb3) hb3.size ((h.below hb3).more hb3.size) hs.1 hC)
      clear hn
      go_wp2_with fail
      clear r0 r1 r2
      refine HF.out.mono ?_
      intro e' w3 hmk
      cases hf : cfF os M t with
      | none =>
        have HE := hide (cfC_2 HC.out HN.out hf)
        rw [hf] at hmk
        obtain ⟨rfl, hb4⟩ := hmk.out_none
        clear hf hmk HF
        go_wp2_with fail
        refine bodyPost_ret (v := .tuple #[.slice none 0 0, .int .i64 4]) (by simp [results, Try.results40, go_sem]) rfl ?_
        rw [HE.out.1, HE.out.2]
        exact ⟨_, rfl, E1.nil _ _ (fun _ h => h.2), hb3.trans (hb4.mono hb3.size)⟩
      | some xs =>
        have HE := hide (cfC_3 HC.out HN.out hf)
        have hok := cfF_ok hn8 hf
        rw [hf] at hmk
        obtain ⟨g, cap, rfl, ho, hb4⟩ := hmk.out_some
        have HX := hide (E1.of_ow ho (fun x hx => by have := hok.2 x hx; unfold i64ok; omega))
        have hl4 := hok.1
        rw [hl4] at HX ⊢
        have hlz : (((4 : Nat) : Int) == 0) = false := by decide
        clear hf hmk HF ho hok hl4
        go_wp2_with fail
        refine bodyPost_ret (v := .tuple #[.slice (some ⟨g, 0, none⟩) 4 cap, .int .i64 0]) (by simp [results, Try.results40, go_sem]) rfl ?_
        rw [HE.out.1, HE.out.2]
        exact ⟨_, rfl, HX.out.mono (fun b h => ⟨Nat.le_trans hb3.size h.1, h.2⟩) (fun _ h => h.2), hb3.trans (hb4.mono hb3.size)⟩
end Go.Proofs.Ythjlpgaoemdmkaa
