
/- The walks of ValuesInOrder of both sides. -/
import Derived.Test.YtneflhachjlmkaaQG
import Derived.Test.YtneflhachjlmkaaVS
import Derived.Test.YtneflhachjlmkaaLa
namespace Go.Proofs.Ytneflhachjlmkaa
open Go Go.RowKit Grp
set_option linter.unusedSimpArgs false
set_option linter.unusedVariables false
set_option maxRecDepth 100000
/-- What ValuesInOrder returns. -/
noncomputable def voR (os : List Int) (D : Int) (vs xs : List Int) : List Int := srt (cqR os D vs xs).2.2.2
theorem srt_nil : srt [] = [] := by simp [srt]
theorem Ow.up {w : World} {B B' : Nat} {v : Value} {xs : List Int} (h : Ow w B v xs) (hB : ∀ b, v.ownBlock = some b → B' ≤ b) : Ow w B' v xs := by
  obtain ⟨h1, h2⟩ := h
  refine ⟨h1, ?_⟩
  rcases h2 with h2 | ⟨g, cap, cur, hv, hg, h3⟩
  · exact .inl h2
  · exact .inr ⟨g, cap, cur, hv, hB g (by rw [hv]; rfl), h3⟩
set_option maxHeartbeats 2000000 in
theorem spec_VO_any (w : World) (A : Option Addr) (n c : Nat) (os : List Int) (D : Int) (A' : Option Addr) (n' c' : Nat) (vs : List Int) (L : Option Addr) (l lc : Nat) (xs : List Int)
    (h : Sl w w.heap.size A n c os) (h' : Sl w w.heap.size A' n' c' vs) (hx : Sl w w.heap.size L l lc xs) (hn : n ≤ 1048576) (hn' : n' ≤ 1048576) (hl : l ≤ 1048576) :
    Calls Try.prog 30 #[.agg #[.slice A n c, .int .i64 D, .slice A' n' c'], .slice L l lc] w (MkC w (voR os D vs xs) (codeI os D vs xs)) := by
  obtain rfl := h'.len
  obtain rfl := hx.len
  have hcode := fun W A n c A' n' c' LL l lc => l11Isotropy_any W A n c os D A' n' c' vs LL l lc xs
  obtain ⟨k, hk⟩ : ∃ k, codeI os D vs xs = k := ⟨_, rfl⟩
  rw [hk] at hcode
  by_cases hk0 : k = 0
  · subst hk0
    have hCs := hide (codeI_0 hk).1
    have hV := hide (show voR os D vs xs = srt (condQ os D vs xs).2.2.2 by unfold voR cqR; rw [if_pos hk])
    have hvl := hide hCs.out.vlen
    have hC := hide hk
    clear hk
    go_enter Try.func30, Try.ntmps30
    go_wp2_with fail
    obtain ⟨W, hW⟩ : ∃ W, w.alloc (.cells #[.slice A n c, .int .i64 D, .slice A' vs.length c'] 28) = W := ⟨_, rfl⟩
    have hbW : Below w.heap.size w W := by rw [← hW]; exact (by repeat (first | assumption | exact Below.refl _ _ | apply below_drewN | apply Below.drew | apply Below.alloc | apply Below.setCell | omega | (focus (simp; done)) | (focus (simp; omega))))
    have hszW : w.heap.size < W.heap.size := by rw [← hW]; simp
    have hsW := hide (show W.heap.size = w.heap.size + 1 by rw [← hW]; simp)
    have bM : Blk W w.heap.size 28 #[.slice A n c, .int .i64 D, .slice A' vs.length c'] := by rw [← hW]; exact Blk.new _ _ _
    have q0 : W.cell? ⟨w.heap.size, 0, none⟩ = some (.slice A n c) := by rw [← hW]; exact (Blk.new _ _ _).cell 0
    have q1 : W.cell? ⟨w.heap.size, 1, none⟩ = some (.int .i64 D) := by rw [← hW]; exact (Blk.new _ _ _).cell 1
    have q2 : W.cell? ⟨w.heap.size, 2, none⟩ = some (.slice A' vs.length c') := by rw [← hW]; exact (Blk.new _ _ _).cell 2
    rw [hW]
    clear hW
    have hs := (h.below hbW).more (Nat.le_of_lt hszW)
    have hs' := (h'.below hbW).more (Nat.le_of_lt hszW)
    have hxs := (hx.below hbW).more (Nat.le_of_lt hszW)
    refine (hcode _ _ _ _ _ _ _ _ _ _ hs hs' hxs hn hn' hl).mono ?_
    rintro e w2 ⟨rfl, hb2⟩
    have r0 := (hb2.cell (p := ⟨w.heap.size, 0, none⟩) hszW).trans q0
    have r1 := (hb2.cell (p := ⟨w.heap.size, 1, none⟩) hszW).trans q1
    have r2 := (hb2.cell (p := ⟨w.heap.size, 2, none⟩) hszW).trans q2
    have hs2 := (hs.below hb2).more hb2.size
    have hs2' := (hs'.below hb2).more hb2.size
    have hxs2 := (hxs.below hb2).more hb2.size
    go_wp2_with fail
    clear r0 r1 r2
    refine (l11Condense_any _ _ _ _ os _ _ _ _ vs _ _ _ xs hs2 hs2' hxs2 hl hCs.out).mono ?_
    rintro e w3 ⟨u, rfl, hE, hb3⟩
    obtain ⟨A1, n1, c1, F1, p1, f1, D1, m1, e1, rfl, k1, k2, k3⟩ := quotient_rd hE
    have hml := k3.len
    have hml2 := hvl.out
    have hz3 := Nat.le_trans hb2.size hb3.size
    clear hE k1 k2
    have hfd := field_Q3 (.slice A1 n1 c1) (.slice F1 p1 f1) (.int .i64 (condQ os D vs xs).2.2.1) (.slice D1 m1 e1) w3
    go_wp2_with fail
    refine (l11Sorted_any w3 D1 m1 e1 _ k3 (by omega)).mono ?_
    rintro e w4 ⟨v, rfl, hO, hb4⟩
    go_wp2_with fail
    refine bodyPost_ret (v := .tuple #[v, .int .i64 0]) (by simp [results, Try.results30, go_sem]) rfl ?_
    exact ⟨_, by rw [hC.out], by rw [hV.out]; exact hO.less (by omega), hbW.trans ((hb2.trans (hb3.mono hb2.size)).trans (hb4.mono hz3) |>.mono (Nat.le_of_lt hszW))⟩
  · have hV := hide (show voR os D vs xs = [] by unfold voR cqR; rw [hk, if_neg hk0]; exact srt_nil)
    have hkb' : (k != 0) = true := by simpa using hk0
    have hC := hide hk
    clear hk
    go_enter Try.func30, Try.ntmps30
    go_wp2_with fail
    obtain ⟨W, hW⟩ : ∃ W, w.alloc (.cells #[.slice A n c, .int .i64 D, .slice A' vs.length c'] 28) = W := ⟨_, rfl⟩
    have hbW : Below w.heap.size w W := by rw [← hW]; exact (by repeat (first | assumption | exact Below.refl _ _ | apply below_drewN | apply Below.drew | apply Below.alloc | apply Below.setCell | omega | (focus (simp; done)) | (focus (simp; omega))))
    have hszW : w.heap.size < W.heap.size := by rw [← hW]; simp
    have hsW := hide (show W.heap.size = w.heap.size + 1 by rw [← hW]; simp)
    have bM : Blk W w.heap.size 28 #[.slice A n c, .int .i64 D, .slice A' vs.length c'] := by rw [← hW]; exact Blk.new _ _ _
    have q0 : W.cell? ⟨w.heap.size, 0, none⟩ = some (.slice A n c) := by rw [← hW]; exact (Blk.new _ _ _).cell 0
    have q1 : W.cell? ⟨w.heap.size, 1, none⟩ = some (.int .i64 D) := by rw [← hW]; exact (Blk.new _ _ _).cell 1
    have q2 : W.cell? ⟨w.heap.size, 2, none⟩ = some (.slice A' vs.length c') := by rw [← hW]; exact (Blk.new _ _ _).cell 2
    rw [hW]
    clear hW
    have hs := (h.below hbW).more (Nat.le_of_lt hszW)
    have hs' := (h'.below hbW).more (Nat.le_of_lt hszW)
    have hxs := (hx.below hbW).more (Nat.le_of_lt hszW)
    refine (hcode _ _ _ _ _ _ _ _ _ _ hs hs' hxs hn hn' hl).mono ?_
    rintro e w2 ⟨rfl, hb2⟩
    have r0 := (hb2.cell (p := ⟨w.heap.size, 0, none⟩) hszW).trans q0
    have r1 := (hb2.cell (p := ⟨w.heap.size, 1, none⟩) hszW).trans q1
    have r2 := (hb2.cell (p := ⟨w.heap.size, 2, none⟩) hszW).trans q2
    have hs2 := (hs.below hb2).more hb2.size
    have hs2' := (hs'.below hb2).more hb2.size
    have hxs2 := (hxs.below hb2).more hb2.size
    go_wp2_with fail
    clear r0 r1 r2
    refine bodyPost_ret (v := .tuple #[.slice none 0 0, .int .i64 k]) (by simp [results, Try.results30, go_sem]) rfl ?_
    exact ⟨_, by rw [hC.out], by rw [hV.out]; exact Ow.nil _ _, hbW.trans (hb2.mono (Nat.le_of_lt hszW))⟩
set_option maxHeartbeats 2000000 in
theorem impl_VO_any (w : World) (A : Option Addr) (n c : Nat) (os : List Int) (D : Int) (A' : Option Addr) (n' c' : Nat) (vs : List Int) (L : Option Addr) (l lc : Nat) (xs : List Int)
    (h : Sl w w.heap.size A n c os) (h' : Sl w w.heap.size A' n' c' vs) (hx : Sl w w.heap.size L l lc xs) (hn : n ≤ 1048576) (hn' : n' ≤ 1048576) (hl : l ≤ 1048576) :
    Calls Try.prog 31 #[.agg #[.slice A n c, .int .i64 D, .slice A' n' c'], .slice L l lc] w (MkC w (voR os D vs xs) (codeI os D vs xs)) := by
  obtain rfl := h'.len
  obtain rfl := hx.len
  have hcall := fun W A n c A' n' c' LL l lc => impl_Cond_any W A n c os D A' n' c' vs LL l lc xs
  obtain ⟨k, hk⟩ : ∃ k, codeI os D vs xs = k := ⟨_, rfl⟩
  rw [hk] at hcall
  have hvl := (cqR_vals os D vs xs).1
  have hVR : voR os D vs xs = srt (cqR os D vs xs).2.2.2 := rfl
  obtain ⟨V, hV⟩ : ∃ V, (cqR os D vs xs).2.2.2 = V := ⟨_, rfl⟩
  rw [hV] at hvl hVR
  have HV := hide hV
  have HVR := hide hVR
  have hC := hide hk
  clear hk hV hVR
  go_enter Try.func31, Try.ntmps31
  go_wp2_with fail
  obtain ⟨W, hW⟩ : ∃ W, w.alloc (.cells #[.slice A n c, .int .i64 D, .slice A' vs.length c'] 28) = W := ⟨_, rfl⟩
  have hbW : Below w.heap.size w W := by rw [← hW]; exact (by repeat (first | assumption | exact Below.refl _ _ | apply below_drewN | apply Below.drew | apply Below.alloc | apply Below.setCell | omega | (focus (simp; done)) | (focus (simp; omega))))
  have hszW : w.heap.size < W.heap.size := by rw [← hW]; simp
  have hsW := hide (show W.heap.size = w.heap.size + 1 by rw [← hW]; simp)
  have bM : Blk W w.heap.size 28 #[.slice A n c, .int .i64 D, .slice A' vs.length c'] := by rw [← hW]; exact Blk.new _ _ _
  have q0 : W.cell? ⟨w.heap.size, 0, none⟩ = some (.slice A n c) := by rw [← hW]; exact (Blk.new _ _ _).cell 0
  have q1 : W.cell? ⟨w.heap.size, 1, none⟩ = some (.int .i64 D) := by rw [← hW]; exact (Blk.new _ _ _).cell 1
  have q2 : W.cell? ⟨w.heap.size, 2, none⟩ = some (.slice A' vs.length c') := by rw [← hW]; exact (Blk.new _ _ _).cell 2
  rw [hW]
  clear hW
  have hs := (h.below hbW).more (Nat.le_of_lt hszW)
  have hs' := (h'.below hbW).more (Nat.le_of_lt hszW)
  have hxs := (hx.below hbW).more (Nat.le_of_lt hszW)
  refine (hcall _ _ _ _ _ _ _ _ _ _ hs hs' hxs hn hn' hl).mono ?_
  rintro e w2 ⟨u, rfl, hE, hb2⟩
  obtain ⟨u1, u2, u3, F1, F2, F3, rfl, h1, h2, h3, _, _, _, _, _, s3, _⟩ := hE
  rw [HV.out] at h3
  obtain ⟨A1, c1, rfl, _⟩ := h1.sl
  obtain ⟨A2, c2, rfl, _⟩ := E2.sl2 h2
  have hO := h3.own.up (B' := w.heap.size) (fun b hb => by have := (s3 b (h3.fp_ b hb)).1; omega)
  obtain ⟨A3, c3, rfl⟩ := hO.val
  obtain ⟨z1, hz1⟩ : ∃ z, (cqR os D vs xs).2.2.1 = z := ⟨_, rfl⟩
  rw [hz1]
  obtain ⟨n1, hn1⟩ : ∃ z, (cqR os D vs xs).1.length = z := ⟨_, rfl⟩
  rw [hn1]
  obtain ⟨n2, hn2⟩ : ∃ z, (cqR os D vs xs).2.1.length = z := ⟨_, rfl⟩
  rw [hn2]
  clear h1 h2 h3 s3 hz1 hn1 hn2
  have hzz := hb2.size
  go_wp2_with fail
  obtain ⟨X, hX⟩ : ∃ X, w2.heap.size = X := ⟨_, rfl⟩
  obtain ⟨W3, hW3⟩ : ∃ W3, w2.alloc (.cells #[.slice A1 n1 c1, .slice A2 n2 c2, .int .i64 z1, .slice A3 V.length c3] 40) = W3 := ⟨_, rfl⟩
  have hB3 : Below W.heap.size W W3 := by rw [← hW3]; exact hb2.alloc hb2.size _
  have hO3 : Ow W3 w.heap.size (.slice A3 V.length c3) V := by rw [← hW3]; exact hO.alloc _
  have bX : Blk W3 X 40 #[.slice A1 n1 c1, .slice A2 n2 c2, .int .i64 z1, .slice A3 V.length c3] := by rw [← hW3]; exact Blk.new' _ _ _ _ hX
  have x3 := bX.cell 3
  try rw [hX]
  try rw [hW3]
  clear hW3 hO
  try go_wp2_with fail
  clear x3
  refine (sort_any W3 w.heap.size _ V hO3 (by omega)).mono ?_
  rintro e w4 ⟨rfl, hO4, hg4⟩
  have bX4 := bX.grown hg4 (hO3.blk_ne bX (by decide))
  have x4 := bX4.cell 3
  have hB4 : Below w.heap.size w w4 := (hbW.trans (hB3.mono (Nat.le_of_lt hszW))).grown hg4 (by have := hB3.size; omega) (fun b hb => (hO3.lt b hb).1)
  go_wp2_with fail
  refine bodyPost_ret (v := .tuple #[.slice A3 V.length c3, .int .i64 k]) (by simp [results, Try.results31, go_sem]) rfl ?_
  exact ⟨_, by rw [hC.out], by rw [HVR.out]; exact hO4, hB4⟩
end Go.Proofs.Ytneflhachjlmkaa
