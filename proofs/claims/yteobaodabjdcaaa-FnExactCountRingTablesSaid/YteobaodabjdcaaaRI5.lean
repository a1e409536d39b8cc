
/- The walks of fault, IsRing of both sides. -/
import Derived.Test.YteobaodabjdcaaaRI4
import Derived.Lib.SliceRun
namespace Go.Proofs.Yteobaodabjdcaaa
open Go Go.RowKit
set_option linter.unusedSimpArgs false
set_option linter.unusedVariables false
set_option maxRecDepth 100000

theorem MkO.from {w w1 w' : World} {o : Option (List Int)} {e : Ending} (h : MkO w1 o e w') (hb : Below w.heap.size w w1) : MkO w o e w' :=
  ⟨h.1, fun xs hx => by obtain ⟨g, cap, he, ho⟩ := h.2.1 xs hx; exact ⟨g, cap, he, ho.less hb.size⟩, hb.trans (h.2.2.mono hb.size)⟩
theorem MkO.out_none {w w' : World} {e : Ending} (h : MkO w none e w') : e = .returned (.slice none 0 0) ∧ Below w.heap.size w w' := ⟨h.1 rfl, h.2.2⟩
theorem MkO.out_some {w w' : World} {xs : List Int} {e : Ending} (h : MkO w (some xs) e w') : ∃ g cap, e = .returned (.slice (some ⟨g, 0, none⟩) xs.length cap) ∧ Ow w' w.heap.size (.slice (some ⟨g, 0, none⟩) xs.length cap) xs ∧ Below w.heap.size w w' := by
  obtain ⟨g, cap, h1, h2⟩ := h.2.1 xs rfl
  exact ⟨g, cap, h1, h2, h.2.2⟩
theorem mkO_some {w w1 w' : World} {xs : List Int} {g cap : Nat} (hb : Below w.heap.size w w1) (ho : Ow w' w1.heap.size (.slice (some ⟨g, 0, none⟩) xs.length cap) xs) (hb1 : Below w1.heap.size w1 w') : MkO w (some xs) (.returned (.slice (some ⟨g, 0, none⟩) xs.length cap)) w' :=
  ⟨fun h => (by cases h), fun ys h => (by injection h with h; subst h; exact ⟨g, cap, rfl, ho.less hb.size⟩), hb.trans (hb1.mono hb.size)⟩

set_option maxHeartbeats 4000000 in
theorem fault_any (w : World) (c b off : Nat) (b1 o1 c1 : Nat → Nat) (b2 o2 c2 : Nat → Nat → Nat) (t : Tb) (B : Nat) (hV : View w B t.length b off b1 o1 c1 b2 o2 c2 (t3 t)) (hB : B ≤ w.heap.size) (hC : IsCb t) (hc : t.length ≤ c) :
    Calls Try.prog 24 #[.agg #[.slice (some ⟨b, off, none⟩) t.length c]] w (MkO w (flt t)) := by
  have hn16 := hC.le
  have hn1 := hC.pos
  have hq := fun W A n c => run_neq_slice_nil_any (P := Try.prog) W 35 _ A n c 0 0 Try.underlying35
  cases hu : unitF t with
  | some xs =>
    have HE := hide (flt_unit hu)
    go_enter Try.func24, Try.ntmps24
    go_wp2_with fail
    obtain ⟨W, hW⟩ : ∃ W, w.alloc (.cells #[.slice (some ⟨b, off, none⟩) t.length c] 31) = W := ⟨_, rfl⟩
    have hbW : Below w.heap.size w W := by rw [← hW]; exact (by repeat (first | assumption | exact Below.refl _ _ | apply below_drewN | apply Below.drew | apply Below.alloc | apply Below.setCell | omega | (focus (simp; done)) | (focus (simp; omega))))
    have hszW : w.heap.size < W.heap.size := by rw [← hW]; simp
    have hsW := hide (show W.heap.size = w.heap.size + 1 by rw [← hW]; simp)
    have q0 : W.cell? ⟨w.heap.size, 0, none⟩ = some (.slice (some ⟨b, off, none⟩) t.length c) := by rw [← hW]; exact (Blk.new _ _ _).cell 0
    rw [hW]
    clear hW
    have hU := unitFault_any W c b off b1 o1 c1 b2 o2 c2 t B (hV.le (hbW.mono hB)) (by omega) hn16 hn1 hc
    rw [hu] at hU
    have HU := hide hU
    clear hu hU
    go_wp2_with fail
    refine HU.out.mono ?_
    intro e w1 h
    obtain ⟨g, cap, rfl, ho, hb⟩ := h.out_some
    clear h
    go_wp2_with fail
    go_ret
    rw [HE.out]
    exact mkO_some hbW ho hb
  | none =>
    obtain ⟨di, hdi⟩ : ∃ di, dfI t = di := ⟨_, rfl⟩
    cases hd : dfF t with
    | some i =>
      have HE := hide (flt_dual hu hd)
      have HI := hide (dfI_some hd)
      have hi0 : 0 ≤ i := by
        have : ∃ k, dfAt t k = some i := by
          unfold dfF fs at hd
          obtain ⟨k, _, hk⟩ := List.exists_of_findSome?_eq_some hd
          exact ⟨k, hk⟩
        obtain ⟨k, hk⟩ := this
        unfold dfAt at hk
        split at hk
        · injection hk with hk; omega
        · cases hk
      go_enter Try.func24, Try.ntmps24
      go_wp2_with fail
      obtain ⟨W, hW⟩ : ∃ W, w.alloc (.cells #[.slice (some ⟨b, off, none⟩) t.length c] 31) = W := ⟨_, rfl⟩
      have hbW : Below w.heap.size w W := by rw [← hW]; exact (by repeat (first | assumption | exact Below.refl _ _ | apply below_drewN | apply Below.drew | apply Below.alloc | apply Below.setCell | omega | (focus (simp; done)) | (focus (simp; omega))))
      have hszW : w.heap.size < W.heap.size := by rw [← hW]; simp
      have hsW := hide (show W.heap.size = w.heap.size + 1 by rw [← hW]; simp)
      have q0 : W.cell? ⟨w.heap.size, 0, none⟩ = some (.slice (some ⟨b, off, none⟩) t.length c) := by rw [← hW]; exact (Blk.new _ _ _).cell 0
      rw [hW]
      clear hW
      have hU := unitFault_any W c b off b1 o1 c1 b2 o2 c2 t B (hV.le (hbW.mono hB)) (by omega) hn16 hn1 hc
      rw [hu] at hU
      have HU := hide hU
      clear hu hU hd hdi
      go_wp2_with fail
      refine HU.out.mono ?_
      intro e w1 h
      obtain ⟨rfl, hb⟩ := h.out_none
      clear h
      have r0 := (hb.cell (p := ⟨w.heap.size, 0, none⟩) hszW).trans q0
      have hb1 := hbW.trans (hb.mono (Nat.le_of_lt hszW))
      have hD := dualFault_any w1 B t.length c b off b1 o1 c1 b2 o2 c2 t (hV.le (hb1.mono hB)) (Nat.le_trans hB hb1.size) rfl hn16 hn1 hc
      rw [HI.out] at hD
      have HD := hide hD
      clear hD
      go_wp2_with fail
      clear r0
      refine HD.out.mono ?_
      rintro e w2 ⟨rfl, hb2⟩
      go_wp2_with fail
      go_ret
      rw [HE.out]
      have hb3 := hb1.trans (hb2.mono hb1.size)
      exact mkO_new (w0 := w) (xs := [1, i]) (Blk.new' _ _ _ _ rfl) rfl rfl hb3.size (by unfold maxLen; omega) (hb3.alloc hb3.size _)
    | none =>
      have HI := hide (dfI_none hd)
      have HDN := hide hd
      have HUN := hide hu
      go_enter Try.func24, Try.ntmps24
      go_wp2_with fail
      obtain ⟨W, hW⟩ : ∃ W, w.alloc (.cells #[.slice (some ⟨b, off, none⟩) t.length c] 31) = W := ⟨_, rfl⟩
      have hbW : Below w.heap.size w W := by rw [← hW]; exact (by repeat (first | assumption | exact Below.refl _ _ | apply below_drewN | apply Below.drew | apply Below.alloc | apply Below.setCell | omega | (focus (simp; done)) | (focus (simp; omega))))
      have hszW : w.heap.size < W.heap.size := by rw [← hW]; simp
      have hsW := hide (show W.heap.size = w.heap.size + 1 by rw [← hW]; simp)
      have q0 : W.cell? ⟨w.heap.size, 0, none⟩ = some (.slice (some ⟨b, off, none⟩) t.length c) := by rw [← hW]; exact (Blk.new _ _ _).cell 0
      rw [hW]
      clear hW
      have hU := unitFault_any W c b off b1 o1 c1 b2 o2 c2 t B (hV.le (hbW.mono hB)) (by omega) hn16 hn1 hc
      rw [hu] at hU
      have HU := hide hU
      clear hu hU hd hdi
      go_wp2_with fail
      refine HU.out.mono ?_
      intro e w1 h
      obtain ⟨rfl, hb⟩ := h.out_none
      clear h
      have r0 := (hb.cell (p := ⟨w.heap.size, 0, none⟩) hszW).trans q0
      have hb1 := hbW.trans (hb.mono (Nat.le_of_lt hszW))
      have hD := dualFault_any w1 B t.length c b off b1 o1 c1 b2 o2 c2 t (hV.le (hb1.mono hB)) (Nat.le_trans hB hb1.size) rfl hn16 hn1 hc
      rw [HI.out] at hD
      have HD := hide hD
      clear hD
      go_wp2_with fail
      clear r0
      refine HD.out.mono ?_
      rintro e w2 ⟨rfl, hb2⟩
      have hb3 := hb1.trans (hb2.mono hb1.size)
      have hbx := hb.trans (hb2.mono hb.size)
      have r0 := (hbx.cell (p := ⟨w.heap.size, 0, none⟩) hszW).trans q0
      have HT := hide (turnFault_any w2 c b off b1 o1 c1 b2 o2 c2 t B (hV.le (hb3.mono hB)) (Nat.le_trans hB hb3.size) hn16 hn1 hc HDN.out)
      go_wp2_with fail
      clear r0
      refine HT.out.mono ?_
      intro e w3 h
      cases ht : turnF t with
      | some xs =>
        have HE := hide (flt_turn HUN.out HDN.out ht)
        rw [ht] at h
        obtain ⟨g, cap, rfl, ho, hb4⟩ := h.out_some
        clear h ht
        go_wp2_with fail
        go_ret
        rw [HE.out]
        exact mkO_some hb3 ho hb4
      | none =>
        have HTN := hide ht
        rw [ht] at h
        obtain ⟨rfl, hb4⟩ := h.out_none
        clear h ht
        have hb5 := hb3.trans (hb4.mono hb3.size)
        have hby := hbx.trans (hb4.mono hbx.size)
        have r0 := (hby.cell (p := ⟨w.heap.size, 0, none⟩) hszW).trans q0
        have HBr := hide (bracketFault_any w3 c b off b1 o1 c1 b2 o2 c2 t B (hV.le (hb5.mono hB)) (Nat.le_trans hB hb5.size) hC hc)
        go_wp2_with fail
        clear r0
        refine HBr.out.mono ?_
        intro e w4 h
        have h1 := h.from hb5
        have HE := hide (flt_br HUN.out HDN.out HTN.out (rfl : brF t = brF t))
        cases hbr : brF t with
        | some xs =>
          rw [hbr] at h
          obtain ⟨g, cap, rfl, ho, hb6⟩ := h.out_some
          have HBF := hide hbr
          clear h h1 hbr
          go_wp2_with fail
          go_ret
          rw [HE.out, HBF.out]
          exact mkO_some hb5 ho hb6
        | none =>
          rw [hbr] at h
          obtain ⟨rfl, hb6⟩ := h.out_none
          have HBF := hide hbr
          clear h h1 hbr
          go_wp2_with fail
          go_ret
          rw [HE.out, HBF.out]
          exact MkO.no (hb5.trans (hb6.mono hb5.size))
/-- A ring. -/
noncomputable def rgB (t : Tb) : Bool := cbB t && (flt t).isNone
theorem rgB_1 {t : Tb} (h : cbB t = false) : rgB t = false := by simp [rgB, h]
theorem rgB_2 {t : Tb} {x : List Int} (h : flt t = some x) : rgB t = false := by simp [rgB, h]
theorem rgB_3 {t : Tb} (h0 : cbB t = true) (h : flt t = none) : rgB t = true := by simp [rgB, h0, h]
theorem rgB_t {t : Tb} (h : rgB t = true) : IsCb t ∧ flt t = none := by
  unfold rgB at h
  rw [Bool.and_eq_true, Option.isNone_iff_eq_none] at h
  exact ⟨cbB_iff.1 h.1, h.2⟩
theorem IsCb.rows {t : Tb} (h : IsCb t) : ∀ m ∈ t, m.length = t.length ∧ ∀ r ∈ m, r.length = t.length := fun m hm => ⟨(h.row m hm).1, fun r hr => ((h.row m hm).2 r hr).1⟩
/-- No list is longer than 2^20. -/
def Sh3 (t : Tb) : Prop := t.length ≤ 1048576 ∧ ∀ xs ∈ t, xs.length ≤ 1048576 ∧ ∀ ys ∈ xs, ys.length ≤ 1048576
theorem flt_len {t : Tb} {xs : List Int} (h : flt t = some xs) : xs ≠ [] := by
  have key : ∀ {α : Type} (n : Nat) (f : Nat → Option α) {x : α}, fs n f = some x → ∃ k, f k = some x := fun n f x hx => by
    obtain ⟨k, _, hk⟩ := List.exists_of_findSome?_eq_some hx; exact ⟨k, hk⟩
  unfold flt at h
  split at h
  · rename_i x hx
    injection h with h; subst h
    obtain ⟨i, h1⟩ := key _ _ hx
    obtain ⟨k, h2⟩ := key _ _ h1
    unfold unitAt at h2
    split at h2 <;> simp at h2
    rw [← h2]; simp
  · split at h
    · injection h with h; rw [← h]; simp
    · split at h
      · rename_i x hx
        injection h with h; subst h
        obtain ⟨i, h1⟩ := key _ _ hx
        obtain ⟨k, h2⟩ := key _ _ h1
        obtain ⟨j, h3⟩ := key _ _ h2
        unfold turnAt at h3
        split at h3 <;> simp at h3
        rw [← h3]; simp
      · obtain ⟨i, h1⟩ := key _ _ h
        obtain ⟨k, h2⟩ := key _ _ h1
        obtain ⟨j, h3⟩ := key _ _ h2
        obtain ⟨l, h4⟩ := key _ _ h3
        unfold brAt at h4
        split at h4 <;> simp at h4
        rw [← h4]; simp
end Go.Proofs.Yteobaodabjdcaaa
