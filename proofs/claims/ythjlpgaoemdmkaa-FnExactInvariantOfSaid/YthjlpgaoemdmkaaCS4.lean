
/- The walk of l17Is of the reference. -/
import Derived.Test.YthjlpgaoemdmkaaCS3
namespace Go.Proofs.Ythjlpgaoemdmkaa
open Go Go.RowKit Grp
set_option linter.unusedSimpArgs false
set_option linter.unusedVariables false
set_option maxRecDepth 100000

theorem MkO.out_none {w w' : World} {e : Ending} (h : MkO w none e w') : e = .returned (.slice none 0 0) ∧ Below w.heap.size w w' := ⟨h.1 rfl, h.2.2⟩
theorem MkO.out_some {w w' : World} {xs : List Int} {e : Ending} (h : MkO w (some xs) e w') : ∃ g cap, e = .returned (.slice (some ⟨g, 0, none⟩) xs.length cap) ∧ Ow w' w.heap.size (.slice (some ⟨g, 0, none⟩) xs.length cap) xs ∧ Below w.heap.size w w' := by
  obtain ⟨g, cap, h1, h2⟩ := h.2.1 xs rfl
  exact ⟨g, cap, h1, h2, h.2.2⟩
theorem cfF_ok {os : List Int} {m : Int} {t : Tb} (hl : t.length ≤ 8) {xs : List Int} (h : cfF os m t = some xs) : xs.length = 4 ∧ ∀ x ∈ xs, 0 ≤ x ∧ x ≤ 8 := by
  have key : ∀ {α : Type} (n : Nat) (f : Nat → Option α) {x : α}, fs n f = some x → ∃ k, k < n ∧ f k = some x := fun n f x hx => by
    obtain ⟨k, hk, hf⟩ := List.exists_of_findSome?_eq_some hx; exact ⟨k, List.mem_range.1 hk, hf⟩
  obtain ⟨i, hi, h1⟩ := key _ _ h
  obtain ⟨j, hj, h2⟩ := key _ _ h1
  obtain ⟨k, hk, h3⟩ := key _ _ h2
  obtain ⟨l, hl', h4⟩ := key _ _ h3
  unfold cfAt at h4
  split at h4
  · cases h4
  · injection h4 with h4
    rw [← h4]
    simp
    omega
set_option maxHeartbeats 4000000 in
theorem l17Is_any (w : World) (A : Option Addr) (n c : Nat) (os : List Int) (M : Int) (D : Option Addr) (e f : Nat) (t : Tb) (h : Sl w w.heap.size A n c os) (h' : Sl3 w w.heap.size D e f t) (hm : i64ok M) (hs : ShC os t) :
    Calls Try.prog 80 #[.agg #[.slice A n c, .int .i64 M, .slice D e f]] w (Re w (.bool (ccB os M t))) := by
  obtain rfl := h.len
  obtain rfl := h'.len
  cases hc : chB os M t with
  | false =>
    have HE := hide (ccB_1 hc)
    go_enter Try.func80, Try.ntmps80
    go_wp2_with fail
    obtain ⟨W, hW⟩ : ∃ W, w.alloc (.cells #[.slice A os.length c, .int .i64 M, .slice D t.length f] 25) = W := ⟨_, rfl⟩
    have hbW : Below w.heap.size w W := by rw [← hW]; exact (by repeat (first | assumption | exact Below.refl _ _ | apply below_drewN | apply Below.drew | apply Below.alloc | apply Below.setCell | omega | (focus (simp; done)) | (focus (simp; omega))))
    have hszW : w.heap.size < W.heap.size := by rw [← hW]; simp
    have hsW := hide (show W.heap.size = w.heap.size + 1 by rw [← hW]; simp)
    have q0 : W.cell? ⟨w.heap.size, 0, none⟩ = some (.slice A os.length c) := by rw [← hW]; exact (Blk.new _ _ _).cell 0
    have q1 : W.cell? ⟨w.heap.size, 1, none⟩ = some (.int .i64 M) := by rw [← hW]; exact (Blk.new _ _ _).cell 1
    have q2 : W.cell? ⟨w.heap.size, 2, none⟩ = some (.slice D t.length f) := by rw [← hW]; exact (Blk.new _ _ _).cell 2
    rw [hW]
    clear hW
    have HS := hide (l17Shape_any W A os.length c os M D t.length f t ((h.below hbW).more (Nat.le_of_lt hszW)) ((h'.below hbW).more (Nat.le_of_lt hszW)) hm hs)
    refine HS.out.mono ?_
    rw [hc]
    rintro e' w1 ⟨rfl, hb⟩
    clear hc
    go_wp2_with fail
    go_ret
    exact ⟨by rw [HE.out]; rfl, hbW.trans (hb.mono (Nat.le_of_lt hszW))⟩
  | true =>
    have hC := chB_iff.1 hc
    obtain ⟨b, off, b1, o1, c1, b2, o2, c2, rfl, hV⟩ := view_of h' hC.pos hC.rows
    have HC := hide hc
    have hn8 := hC.le
    cases hn : nrB t with
    | false =>
      have HE := hide (ccB_2 (os := os) (m := M) hn)
      go_enter Try.func80, Try.ntmps80
      go_wp2_with fail
      obtain ⟨W, hW⟩ : ∃ W, w.alloc (.cells #[.slice A os.length c, .int .i64 M, .slice (some ⟨b, off, none⟩) t.length f] 25) = W := ⟨_, rfl⟩
      have hbW : Below w.heap.size w W := by rw [← hW]; exact (by repeat (first | assumption | exact Below.refl _ _ | apply below_drewN | apply Below.drew | apply Below.alloc | apply Below.setCell | omega | (focus (simp; done)) | (focus (simp; omega))))
      have hszW : w.heap.size < W.heap.size := by rw [← hW]; simp
      have hsW := hide (show W.heap.size = w.heap.size + 1 by rw [← hW]; simp)
      have q0 : W.cell? ⟨w.heap.size, 0, none⟩ = some (.slice A os.length c) := by rw [← hW]; exact (Blk.new _ _ _).cell 0
      have q1 : W.cell? ⟨w.heap.size, 1, none⟩ = some (.int .i64 M) := by rw [← hW]; exact (Blk.new _ _ _).cell 1
      have q2 : W.cell? ⟨w.heap.size, 2, none⟩ = some (.slice (some ⟨b, off, none⟩) t.length f) := by rw [← hW]; exact (Blk.new _ _ _).cell 2
      rw [hW]
      clear hW
      have HS := hide (l17Shape_any W A os.length c os M _ t.length f t ((h.below hbW).more (Nat.le_of_lt hszW)) ((h'.below hbW).more (Nat.le_of_lt hszW)) hm hs)
      refine HS.out.mono ?_
      rw [hc]
      rintro e' w1 ⟨rfl, hb⟩
      have r0 := (hb.cell (p := ⟨w.heap.size, 0, none⟩) hszW).trans q0
      have r1 := (hb.cell (p := ⟨w.heap.size, 1, none⟩) hszW).trans q1
      have r2 := (hb.cell (p := ⟨w.heap.size, 2, none⟩) hszW).trans q2
      have hb1 := hbW.trans (hb.mono (Nat.le_of_lt hszW))
      have HNo := hide (l17Normal_any w1 A os.length c M f b off b1 o1 c1 b2 o2 c2 t w.heap.size (hV.le hb1) hb1.size hs.2.1)
      clear hc
      go_wp2_with fail
      clear r0 r1 r2
      refine HNo.out.mono ?_
      rw [hn]
      rintro e' w2 ⟨rfl, hb2⟩
      clear hn
      go_wp2_with fail
      go_ret
      exact ⟨by rw [HE.out]; rfl, hb1.trans (hb2.mono hb1.size)⟩
    | true =>
      have HN := hide hn
      go_enter Try.func80, Try.ntmps80
      go_wp2_with fail
      obtain ⟨W, hW⟩ : ∃ W, w.alloc (.cells #[.slice A os.length c, .int .i64 M, .slice (some ⟨b, off, none⟩) t.length f] 25) = W := ⟨_, rfl⟩
      have hbW : Below w.heap.size w W := by rw [← hW]; exact (by repeat (first | assumption | exact Below.refl _ _ | apply below_drewN | apply Below.drew | apply Below.alloc | apply Below.setCell | omega | (focus (simp; done)) | (focus (simp; omega))))
      have hszW : w.heap.size < W.heap.size := by rw [← hW]; simp
      have hsW := hide (show W.heap.size = w.heap.size + 1 by rw [← hW]; simp)
      have q0 : W.cell? ⟨w.heap.size, 0, none⟩ = some (.slice A os.length c) := by rw [← hW]; exact (Blk.new _ _ _).cell 0
      have q1 : W.cell? ⟨w.heap.size, 1, none⟩ = some (.int .i64 M) := by rw [← hW]; exact (Blk.new _ _ _).cell 1
      have q2 : W.cell? ⟨w.heap.size, 2, none⟩ = some (.slice (some ⟨b, off, none⟩) t.length f) := by rw [← hW]; exact (Blk.new _ _ _).cell 2
      rw [hW]
      clear hW
      have HS := hide (l17Shape_any W A os.length c os M _ t.length f t ((h.below hbW).more (Nat.le_of_lt hszW)) ((h'.below hbW).more (Nat.le_of_lt hszW)) hm hs)
      refine HS.out.mono ?_
      rw [hc]
      rintro e' w1 ⟨rfl, hb⟩
      have r0 := (hb.cell (p := ⟨w.heap.size, 0, none⟩) hszW).trans q0
      have r1 := (hb.cell (p := ⟨w.heap.size, 1, none⟩) hszW).trans q1
      have r2 := (hb.cell (p := ⟨w.heap.size, 2, none⟩) hszW).trans q2
      have hb1 := hbW.trans (hb.mono (Nat.le_of_lt hszW))
      have HNo := hide (l17Normal_any w1 A os.length c M f b off b1 o1 c1 b2 o2 c2 t w.heap.size (hV.le hb1) hb1.size hs.2.1)
      clear hc
      go_wp2_with fail
      clear r0 r1 r2
      refine HNo.out.mono ?_
      rw [hn]
      rintro e' w2 ⟨rfl, hb2⟩
      have hbb := hb.trans (hb2.mono hb.size)
      have r0 := (hbb.cell (p := ⟨w.heap.size, 0, none⟩) hszW).trans q0
      have r1 := (hbb.cell (p := ⟨w.heap.size, 1, none⟩) hszW).trans q1
      have r2 := (hbb.cell (p := ⟨w.heap.size, 2, none⟩) hszW).trans q2
      have hb3 := hb1.trans (hb2.mono hb1.size)
      have HF := hide (l17Fault_any w2 A os.length c os M f b off b1 o1 c1 b2 o2 c2 t (hV.keep hb3 hb3.size) ((h.below hb3).more hb3.size) hs.1 hC)
      clear hn
      go_wp2_with fail
      clear r0 r1 r2
      refine HF.out.mono ?_
      intro e' w3 hmk
      cases hf : cfF os M t with
      | none =>
        have HE := hide (ccB_4 HC.out HN.out hf)
        rw [hf] at hmk
        obtain ⟨rfl, hb4⟩ := hmk.out_none
        clear hf hmk HF
        go_wp2_with fail
        go_ret
        exact ⟨by rw [HE.out]; rfl, hb3.trans (hb4.mono hb3.size)⟩
      | some xs =>
        have HE := hide (ccB_3 hf)
        have hl4 := (cfF_ok hn8 hf).1
        rw [hf] at hmk
        obtain ⟨g, cap, rfl, ho, hb4⟩ := hmk.out_some
        rw [hl4] at ho ⊢
        have hlz : (((4 : Nat) : Int) == 0) = false := by decide
        clear hf hmk HF ho hl4
        go_wp2_with fail
        go_ret
        exact ⟨by rw [HE.out]; rfl, hb3.trans (hb4.mono hb3.size)⟩
end Go.Proofs.Ythjlpgaoemdmkaa
