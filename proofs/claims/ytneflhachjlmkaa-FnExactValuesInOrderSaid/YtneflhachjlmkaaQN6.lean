
/- The walks of l11Isotropy and of CondenseMetric of both sides. -/
import Derived.Test.YtneflhachjlmkaaQN5
namespace Go.Proofs.Ytneflhachjlmkaa
open Go Go.RowKit Grp
set_option linter.unusedSimpArgs false
set_option linter.unusedVariables false
set_option maxRecDepth 100000
theorem codeI_t {os vs xs : List Int} {D : Int} (h : codeS os D vs xs = 0) (hb : isoB vs xs = true) : codeI os D vs xs = 0 := by unfold codeI; rw [if_pos h, if_pos hb]
theorem codeI_f {os vs xs : List Int} {D : Int} (h : codeS os D vs xs = 0) (hb : isoB vs xs = false) : codeI os D vs xs = 5 := by unfold codeI; rw [if_pos h, hb]; rfl
theorem codeI_n {os vs xs : List Int} {D : Int} (h : codeS os D vs xs ≠ 0) : codeI os D vs xs = codeS os D vs xs := by unfold codeI; rw [if_neg h]
/-- What CondenseMetric returns. -/
noncomputable def cqR (os : List Int) (D : Int) (vs xs : List Int) : quotient_T := if codeI os D vs xs = 0 then condQ os D vs xs else ([], [], 0, [])
set_option maxHeartbeats 2000000 in
theorem l11Isotropy_any (w : World) (A : Option Addr) (n c : Nat) (os : List Int) (D : Int) (A' : Option Addr) (n' c' : Nat) (vs : List Int) (L : Option Addr) (l lc : Nat) (xs : List Int)
    (h : Sl w w.heap.size A n c os) (h' : Sl w w.heap.size A' n' c' vs) (hx : Sl w w.heap.size L l lc xs) (hn : n ≤ 1048576) (hn' : n' ≤ 1048576) (hl : l ≤ 1048576) :
    Calls Try.prog 86 #[.agg #[.slice A n c, .int .i64 D, .slice A' n' c'], .slice L l lc] w (Re w (.int .i64 (codeI os D vs xs))) := by
  obtain rfl := h'.len
  obtain rfl := hx.len
  have hcode := fun W A n c A' n' c' LL l lc => l11Code_any W A n c os D A' n' c' vs LL l lc xs
  obtain ⟨k, hk⟩ : ∃ k, codeS os D vs xs = k := ⟨_, rfl⟩
  rw [hk] at hcode
  by_cases hk0 : k = 0
  · subst hk0
    obtain ⟨hM, hI, -⟩ := codeS_0 hk
    have hG := hM.ok.g
    have HM := hide hI.mem
    have HMv := hide (show ∀ x ∈ xs, 0 ≤ x ∧ x < (vs.length : Int) by rw [hM.ok.len]; exact hI.mem)
    cases hb : isoB vs xs with
    | true =>
      have hC := hide (codeI_t hk hb)
      clear hk
      go_enter Try.func86, Try.ntmps86
      go_wp2_with fail
      obtain ⟨W, hW⟩ : ∃ W, w.alloc (.cells #[.slice A n c, .int .i64 D, .slice A' vs.length c'] 28) = W := ⟨_, rfl⟩
      have hbW : Below w.heap.size w W := by rw [← hW]; exact (by repeat (first | assumption | exact Below.refl _ _ | apply below_drewN | apply Below.drew | apply Below.alloc | apply Below.setCell | omega | (focus (simp; done)) | (focus (simp; omega))))
      have hszW : w.heap.size < W.heap.size := by rw [← hW]; simp
      have hsW := hide (show W.heap.size = w.heap.size + 1 by rw [← hW]; simp)
      have bM : Blk W w.heap.size 28 #[.slice A n c, .int .i64 D, .slice A' vs.length c'] := by rw [← hW]; exact Blk.new _ _ _
      have q0 : W.cell? ⟨w.heap.size, 0, none⟩ = some (.slice A n c) := by rw [← hW]; exact (Blk.new _ _ _).cell 0
      have q1 : W.cell? ⟨w.heap.size, 1, none⟩ = some (.int .i64 D) := by rw [← hW]; exact (Blk.new _ _ _).cell 1
      have q2 : W.cell? ⟨w.heap.size, 2, none⟩ = some (.slice A' vs.length c') := by rw [← hW]; exact (Blk.new _ _ _).cell 2
      rw [hW]
      clear hW
      have hs := (h.below hbW).more (Nat.le_of_lt hszW)
      have hs' := (h'.below hbW).more (Nat.le_of_lt hszW)
      have hxs := (hx.below hbW).more (Nat.le_of_lt hszW)
      refine (hcode _ _ _ _ _ _ _ _ _ _ hs hs' hxs hn hn' hl).mono ?_
      rintro e w2 ⟨rfl, hb2⟩
      have r0 := (hb2.cell (p := ⟨w.heap.size, 0, none⟩) hszW).trans q0
      have r1 := (hb2.cell (p := ⟨w.heap.size, 1, none⟩) hszW).trans q1
      have r2 := (hb2.cell (p := ⟨w.heap.size, 2, none⟩) hszW).trans q2
      have hs2 := (hs.below hb2).more hb2.size
      have hs2' := (hs'.below hb2).more hb2.size
      have hxs2 := (hxs.below hb2).more hb2.size
      go_wp2_with fail
      clear r0 r1 r2
      refine (l11Isotropic_any _ _ _ _ os _ _ _ _ _ _ _ _ _ hs2' hxs2 hn' hl HMv.out).mono ?_
      rw [hb]
      rintro e w3 ⟨rfl, hb3⟩
      clear hb
      go_wp2_with fail
      go_ret
      exact ⟨by rw [hC.out]; rfl, hbW.trans ((hb2.trans (hb3.mono hb2.size)).mono (Nat.le_of_lt hszW))⟩
    | false =>
      have hC := hide (codeI_f hk hb)
      clear hk
      go_enter Try.func86, Try.ntmps86
      go_wp2_with fail
      obtain ⟨W, hW⟩ : ∃ W, w.alloc (.cells #[.slice A n c, .int .i64 D, .slice A' vs.length c'] 28) = W := ⟨_, rfl⟩
      have hbW : Below w.heap.size w W := by rw [← hW]; exact (by repeat (first | assumption | exact Below.refl _ _ | apply below_drewN | apply Below.drew | apply Below.alloc | apply Below.setCell | omega | (focus (simp; done)) | (focus (simp; omega))))
      have hszW : w.heap.size < W.heap.size := by rw [← hW]; simp
      have hsW := hide (show W.heap.size = w.heap.size + 1 by rw [← hW]; simp)
      have bM : Blk W w.heap.size 28 #[.slice A n c, .int .i64 D, .slice A' vs.length c'] := by rw [← hW]; exact Blk.new _ _ _
      have q0 : W.cell? ⟨w.heap.size, 0, none⟩ = some (.slice A n c) := by rw [← hW]; exact (Blk.new _ _ _).cell 0
      have q1 : W.cell? ⟨w.heap.size, 1, none⟩ = some (.int .i64 D) := by rw [← hW]; exact (Blk.new _ _ _).cell 1
      have q2 : W.cell? ⟨w.heap.size, 2, none⟩ = some (.slice A' vs.length c') := by rw [← hW]; exact (Blk.new _ _ _).cell 2
      rw [hW]
      clear hW
      have hs := (h.below hbW).more (Nat.le_of_lt hszW)
      have hs' := (h'.below hbW).more (Nat.le_of_lt hszW)
      have hxs := (hx.below hbW).more (Nat.le_of_lt hszW)
      refine (hcode _ _ _ _ _ _ _ _ _ _ hs hs' hxs hn hn' hl).mono ?_
      rintro e w2 ⟨rfl, hb2⟩
      have r0 := (hb2.cell (p := ⟨w.heap.size, 0, none⟩) hszW).trans q0
      have r1 := (hb2.cell (p := ⟨w.heap.size, 1, none⟩) hszW).trans q1
      have r2 := (hb2.cell (p := ⟨w.heap.size, 2, none⟩) hszW).trans q2
      have hs2 := (hs.below hb2).more hb2.size
      have hs2' := (hs'.below hb2).more hb2.size
      have hxs2 := (hxs.below hb2).more hb2.size
      go_wp2_with fail
      clear r0 r1 r2
      refine (l11Isotropic_any _ _ _ _ os _ _ _ _ _ _ _ _ _ hs2' hxs2 hn' hl HMv.out).mono ?_
      rw [hb]
      rintro e w3 ⟨rfl, hb3⟩
      clear hb
      go_wp2_with fail
      go_ret
      exact ⟨by rw [hC.out]; rfl, hbW.trans ((hb2.trans (hb3.mono hb2.size)).mono (Nat.le_of_lt hszW))⟩
  · have hC := hide (show codeI os D vs xs = k by rw [codeI_n (by rw [hk]; exact hk0), hk])
    have hkb' : (k == 0) = false := by simpa using hk0
    clear hk
    go_enter Try.func86, Try.ntmps86
    go_wp2_with fail
    obtain ⟨W, hW⟩ : ∃ W, w.alloc (.cells #[.slice A n c, .int .i64 D, .slice A' vs.length c'] 28) = W := ⟨_, rfl⟩
    have hbW : Below w.heap.size w W := by rw [← hW]; exact (by repeat (first | assumption | exact Below.refl _ _ | apply below_drewN | apply Below.drew | apply Below.alloc | apply Below.setCell | omega | (focus (simp; done)) | (focus (simp; omega))))
    have hszW : w.heap.size < W.heap.size := by rw [← hW]; simp
    have hsW := hide (show W.heap.size = w.heap.size + 1 by rw [← hW]; simp)
    have bM : Blk W w.heap.size 28 #[.slice A n c, .int .i64 D, .slice A' vs.length c'] := by rw [← hW]; exact Blk.new _ _ _
    have q0 : W.cell? ⟨w.heap.size, 0, none⟩ = some (.slice A n c) := by rw [← hW]; exact (Blk.new _ _ _).cell 0
    have q1 : W.cell? ⟨w.heap.size, 1, none⟩ = some (.int .i64 D) := by rw [← hW]; exact (Blk.new _ _ _).cell 1
    have q2 : W.cell? ⟨w.heap.size, 2, none⟩ = some (.slice A' vs.length c') := by rw [← hW]; exact (Blk.new _ _ _).cell 2
    rw [hW]
    clear hW
    have hs := (h.below hbW).more (Nat.le_of_lt hszW)
    have hs' := (h'.below hbW).more (Nat.le_of_lt hszW)
    have hxs := (hx.below hbW).more (Nat.le_of_lt hszW)
    refine (hcode _ _ _ _ _ _ _ _ _ _ hs hs' hxs hn hn' hl).mono ?_
    rintro e w2 ⟨rfl, hb2⟩
    have r0 := (hb2.cell (p := ⟨w.heap.size, 0, none⟩) hszW).trans q0
    have r1 := (hb2.cell (p := ⟨w.heap.size, 1, none⟩) hszW).trans q1
    have r2 := (hb2.cell (p := ⟨w.heap.size, 2, none⟩) hszW).trans q2
    have hs2 := (hs.below hb2).more hb2.size
    have hs2' := (hs'.below hb2).more hb2.size
    have hxs2 := (hxs.below hb2).more hb2.size
    go_wp2_with fail
    clear r0 r1 r2
    go_ret
    exact ⟨by rw [hC.out]; rfl, hbW.trans (hb2.mono (Nat.le_of_lt hszW))⟩
theorem quotient_mono {w : World} {v : Value} {x : quotient_T} {fp fq : Nat → Prop} (h : quotient_E w v x fp) (hf : ∀ b, fp b → fq b) (hb : ∀ b, fq b → b < w.heap.size) : quotient_E w v x fq := by
  obtain ⟨u1, u2, u3, F1, F2, F3, e, h1, h2, h3, a1, a2, a3, s1, s2, s3, _⟩ := h
  exact ⟨u1, u2, u3, F1, F2, F3, e, h1, h2, h3, a1, a2, a3, fun b h => hf b (s1 b h), fun b h => hf b (s2 b h), fun b h => hf b (s3 b h), hb⟩
set_option maxHeartbeats 2000000 in
theorem spec_Cond_any (w : World) (A : Option Addr) (n c : Nat) (os : List Int) (D : Int) (A' : Option Addr) (n' c' : Nat) (vs : List Int) (L : Option Addr) (l lc : Nat) (xs : List Int)
    (h : Sl w w.heap.size A n c os) (h' : Sl w w.heap.size A' n' c' vs) (hx : Sl w w.heap.size L l lc xs) (hn : n ≤ 1048576) (hn' : n' ≤ 1048576) (hl : l ≤ 1048576) :
    Calls Try.prog 25 #[.agg #[.slice A n c, .int .i64 D, .slice A' n' c'], .slice L l lc] w (MkEC quotient_E w (cqR os D vs xs) (codeI os D vs xs)) := by
  obtain rfl := h'.len
  obtain rfl := hx.len
  have hcode := fun W A n c A' n' c' LL l lc => l11Isotropy_any W A n c os D A' n' c' vs LL l lc xs
  obtain ⟨k, hk⟩ : ∃ k, codeI os D vs xs = k := ⟨_, rfl⟩
  rw [hk] at hcode
  by_cases hk0 : k = 0
  · subst hk0
    have hCs := hide (codeI_0 hk).1
    have hV := hide (show cqR os D vs xs = condQ os D vs xs by unfold cqR; rw [if_pos hk])
    have hC := hide hk
    clear hk
    go_enter Try.func25, Try.ntmps25
    go_wp2_with fail
    obtain ⟨W, hW⟩ : ∃ W, (w.alloc (.cells #[.slice A n c, .int .i64 D, .slice A' vs.length c'] 28)).alloc (.cells #[.slice none 0 0, .slice none 0 0, .int .i64 0, .slice none 0 0] 40) = W := ⟨_, rfl⟩
    have hbW : Below w.heap.size w W := by rw [← hW]; exact (by repeat (first | assumption | exact Below.refl _ _ | apply below_drewN | apply Below.drew | apply Below.alloc | apply Below.setCell | omega | (focus (simp; done)) | (focus (simp; omega))))
    have hszW : w.heap.size < W.heap.size := by rw [← hW]; simp; omega
    have bM : Blk W w.heap.size 28 #[.slice A n c, .int .i64 D, .slice A' vs.length c'] := by rw [← hW]; exact (Blk.new _ _ _).alloc _
    have bR : Blk W (w.heap.size + 1) 40 #[.slice none 0 0, .slice none 0 0, .int .i64 0, .slice none 0 0] := by rw [← hW]; exact Blk.new' _ _ _ _ (by simp)
    have q0 := bM.cell 0
    have q1 := bM.cell 1
    have q2 := bM.cell 2
    rw [hW]
    clear hW
    have hs := (h.below hbW).more (Nat.le_of_lt hszW)
    have hs' := (h'.below hbW).more (Nat.le_of_lt hszW)
    have hxs := (hx.below hbW).more (Nat.le_of_lt hszW)
    refine (hcode _ _ _ _ _ _ _ _ _ _ hs hs' hxs hn hn' hl).mono ?_
    rintro e w2 ⟨rfl, hb2⟩
    have r0 := (hb2.cell (p := ⟨w.heap.size, 0, none⟩) hszW).trans q0
    have r1 := (hb2.cell (p := ⟨w.heap.size, 1, none⟩) hszW).trans q1
    have r2 := (hb2.cell (p := ⟨w.heap.size, 2, none⟩) hszW).trans q2
    have hs2 := (hs.below hb2).more hb2.size
    have hs2' := (hs'.below hb2).more hb2.size
    have hxs2 := (hxs.below hb2).more hb2.size
    have bR2 := bR.all hb2
    go_wp2_with fail
    clear r0 r1 r2
    refine (l11Condense_any _ _ _ _ os _ _ _ _ vs _ _ _ xs hs2 hs2' hxs2 hl hCs.out).mono ?_
    rintro e w3 ⟨u, rfl, hE, hb3⟩
    obtain ⟨A1, n1, c1, F1, p1, f1, z1, D1, m1, e1, rfl, hf⟩ := quotient_form (quotient_rd hE)
    clear hf
    have hzz := bR2.lt
    have bR3 := bR2.all hb3
    have fz0 := bR3.frozen 0
    have fz1 := bR3.frozen 1
    have fz2 := bR3.frozen 2
    have fz3 := bR3.frozen 3
    have cy0 := bR3.cell 0
    have cy1 := bR3.cell 1
    have cy2 := bR3.cell 2
    have cy3 := bR3.cell 3
    have hbt := hbW.trans ((hb2.trans (hb3.mono hb2.size)).mono (Nat.le_of_lt hszW))
    have hb4 := put4_blk (x := .slice A1 n1 c1) (y := .slice F1 p1 f1) (z := .int .i64 z1) (u := .slice D1 m1 e1) bR3
    have p0 := hb4.cell 0
    have p1' := hb4.cell 1
    have p2 := hb4.cell 2
    have p3 := hb4.cell 3
    have hwr : Wr w3 (put4 w3 (w.heap.size + 1) (.slice A1 n1 c1) (.slice F1 p1 f1) (.int .i64 z1) (.slice D1 m1 e1)) (fun b => b = w.heap.size + 1) := put4_wr
    have hfin := hide (And.intro (quotient_wr hE hwr (fun b hb e => by have := hb.1; omega)) (put4_below (x := .slice A1 n1 c1) (y := .slice F1 p1 f1) (z := .int .i64 z1) (u := .slice D1 m1 e1) hbt (show w.heap.size ≤ w.heap.size + 1 by omega)))
    have hszp : (put4 w3 (w.heap.size + 1) (.slice A1 n1 c1) (.slice F1 p1 f1) (.int .i64 z1) (.slice D1 m1 e1)).heap.size = w3.heap.size := put4_size
    have hszp' := hide hszp
    have hsp := hwr.size
    have hspc := hide hsp
    unfold put4 put3 at p0 p1' p2 p3 hfin hszp'
    clear hb4 hE hwr hszp hsp
    go_wp2_with fail
    refine bodyPost_ret (v := .tuple #[.agg #[.slice A1 n1 c1, .slice F1 p1 f1, .int .i64 z1, .slice D1 m1 e1], .int .i64 0]) (by simp [results, Try.results25, go_sem, p0, p1', p2, p3]) rfl ?_
    exact ⟨_, by rw [hC.out], by rw [hV.out]; exact quotient_mono hfin.out.1 (fun b hb => ⟨by have := hb.1; omega, by rw [hszp'.out]; exact hb.2⟩) (fun b hb => hb.2), hfin.out.2⟩
  · have hV := hide (show cqR os D vs xs = ([], [], 0, []) by unfold cqR; rw [hk, if_neg hk0])
    have hC := hide hk
    have hkb' : (k != 0) = true := by simpa using hk0
    clear hk
    go_enter Try.func25, Try.ntmps25
    go_wp2_with fail
    obtain ⟨W, hW⟩ : ∃ W, (w.alloc (.cells #[.slice A n c, .int .i64 D, .slice A' vs.length c'] 28)).alloc (.cells #[.slice none 0 0, .slice none 0 0, .int .i64 0, .slice none 0 0] 40) = W := ⟨_, rfl⟩
    have hbW : Below w.heap.size w W := by rw [← hW]; exact (by repeat (first | assumption | exact Below.refl _ _ | apply below_drewN | apply Below.drew | apply Below.alloc | apply Below.setCell | omega | (focus (simp; done)) | (focus (simp; omega))))
    have hszW : w.heap.size < W.heap.size := by rw [← hW]; simp; omega
    have bM : Blk W w.heap.size 28 #[.slice A n c, .int .i64 D, .slice A' vs.length c'] := by rw [← hW]; exact (Blk.new _ _ _).alloc _
    have bR : Blk W (w.heap.size + 1) 40 #[.slice none 0 0, .slice none 0 0, .int .i64 0, .slice none 0 0] := by rw [← hW]; exact Blk.new' _ _ _ _ (by simp)
    have q0 := bM.cell 0
    have q1 := bM.cell 1
    have q2 := bM.cell 2
    rw [hW]
    clear hW
    have hs := (h.below hbW).more (Nat.le_of_lt hszW)
    have hs' := (h'.below hbW).more (Nat.le_of_lt hszW)
    have hxs := (hx.below hbW).more (Nat.le_of_lt hszW)
    refine (hcode _ _ _ _ _ _ _ _ _ _ hs hs' hxs hn hn' hl).mono ?_
    rintro e w2 ⟨rfl, hb2⟩
    have r0 := (hb2.cell (p := ⟨w.heap.size, 0, none⟩) hszW).trans q0
    have r1 := (hb2.cell (p := ⟨w.heap.size, 1, none⟩) hszW).trans q1
    have r2 := (hb2.cell (p := ⟨w.heap.size, 2, none⟩) hszW).trans q2
    have hs2 := (hs.below hb2).more hb2.size
    have hs2' := (hs'.below hb2).more hb2.size
    have hxs2 := (hxs.below hb2).more hb2.size
    have bR2 := bR.all hb2
    have hbel := hbW.trans (hb2.mono (Nat.le_of_lt hszW))
    have fz0 := bR2.frozen 0
    have fz1 := bR2.frozen 1
    have fz2 := bR2.frozen 2
    have fz3 := bR2.frozen 3
    have cy0 := bR2.cell 0
    have cy1 := bR2.cell 1
    have cy2 := bR2.cell 2
    have cy3 := bR2.cell 3
    have hb4 := put4_blk (x := .slice none 0 0) (y := .slice none 0 0) (z := .int .i64 0) (u := .slice none 0 0) bR2
    have p0 := hb4.cell 0
    have p1 := hb4.cell 1
    have p2 := hb4.cell 2
    have p3 := hb4.cell 3
    have hbz := hide (put4_below (x := .slice none 0 0) (y := .slice none 0 0) (z := .int .i64 0) (u := .slice none 0 0) hbel (show w.heap.size ≤ w.heap.size + 1 by omega))
    unfold put4 put3 at p0 p1 p2 p3 hbz
    clear hb4
    go_wp2_with fail
    refine bodyPost_ret (v := .tuple #[.agg #[.slice none 0 0, .slice none 0 0, .int .i64 0, .slice none 0 0], .int .i64 k]) (by simp [results, Try.results25, go_sem, p0, p1, p2, p3]) rfl ?_
    exact ⟨_, by rw [hC.out], by rw [hV.out]; exact quotient_none _ _ (fun b hb => hb.2) 0, hbz.out⟩
set_option maxHeartbeats 2000000 in
theorem impl_Cond_any (w : World) (A : Option Addr) (n c : Nat) (os : List Int) (D : Int) (A' : Option Addr) (n' c' : Nat) (vs : List Int) (L : Option Addr) (l lc : Nat) (xs : List Int)
    (h : Sl w w.heap.size A n c os) (h' : Sl w w.heap.size A' n' c' vs) (hx : Sl w w.heap.size L l lc xs) (hn : n ≤ 1048576) (hn' : n' ≤ 1048576) (hl : l ≤ 1048576) :
    Calls Try.prog 26 #[.agg #[.slice A n c, .int .i64 D, .slice A' n' c'], .slice L l lc] w (MkEC quotient_E w (cqR os D vs xs) (codeI os D vs xs)) := by
  obtain rfl := h'.len
  obtain rfl := hx.len
  have hcode := fun W A n c A' n' c' LL l lc => subgroupCode_any W A n c os D A' n' c' vs LL l lc xs
  obtain ⟨k, hk⟩ : ∃ k, codeS os D vs xs = k := ⟨_, rfl⟩
  rw [hk] at hcode
  by_cases hk0 : k = 0
  · subst hk0
    obtain ⟨hM, hI, -⟩ := codeS_0 hk
    have hG := hM.ok.g
    have HM := hide hI.mem
    have HMv := hide (show ∀ x ∈ xs, 0 ≤ x ∧ x < (vs.length : Int) by rw [hM.ok.len]; exact hI.mem)
    cases hb : isoB vs xs with
    | true =>
      have hC := hide (codeI_t hk hb)
      have hCs := hide (Cs.of hk hb)
      have hV := hide (show cqR os D vs xs = condQ os D vs xs by unfold cqR; rw [hC.out, if_pos rfl])
      clear hk
      go_enter Try.func26, Try.ntmps26
      go_wp2_with fail
      obtain ⟨W, hW⟩ : ∃ W, (w.alloc (.cells #[.slice A n c, .int .i64 D, .slice A' vs.length c'] 28)).alloc (.cells #[.slice none 0 0, .slice none 0 0, .int .i64 0, .slice none 0 0] 40) = W := ⟨_, rfl⟩
      have hbW : Below w.heap.size w W := by rw [← hW]; exact (by repeat (first | assumption | exact Below.refl _ _ | apply below_drewN | apply Below.drew | apply Below.alloc | apply Below.setCell | omega | (focus (simp; done)) | (focus (simp; omega))))
      have hszW : w.heap.size < W.heap.size := by rw [← hW]; simp; omega
      have bM : Blk W w.heap.size 28 #[.slice A n c, .int .i64 D, .slice A' vs.length c'] := by rw [← hW]; exact (Blk.new _ _ _).alloc _
      have bR : Blk W (w.heap.size + 1) 40 #[.slice none 0 0, .slice none 0 0, .int .i64 0, .slice none 0 0] := by rw [← hW]; exact Blk.new' _ _ _ _ (by simp)
      have q0 := bM.cell 0
      have q1 := bM.cell 1
      have q2 := bM.cell 2
      rw [hW]
      clear hW
      have hs := (h.below hbW).more (Nat.le_of_lt hszW)
      have hs' := (h'.below hbW).more (Nat.le_of_lt hszW)
      have hxs := (hx.below hbW).more (Nat.le_of_lt hszW)
      refine (hcode _ _ _ _ _ _ _ _ _ _ hs hs' hxs hn hn' hl).mono ?_
      rintro e w2 ⟨rfl, hb2⟩
      have r0 := (hb2.cell (p := ⟨w.heap.size, 0, none⟩) hszW).trans q0
      have r1 := (hb2.cell (p := ⟨w.heap.size, 1, none⟩) hszW).trans q1
      have r2 := (hb2.cell (p := ⟨w.heap.size, 2, none⟩) hszW).trans q2
      have hs2 := (hs.below hb2).more hb2.size
      have hs2' := (hs'.below hb2).more hb2.size
      have hxs2 := (hxs.below hb2).more hb2.size
      go_wp2_with fail
      clear r0 r1 r2
      refine (isIsotropic_any _ _ _ _ os _ _ _ _ _ _ _ _ _ hs2' hxs2 hn' hl HMv.out).mono ?_
      rw [hb]
      rintro e w4 ⟨rfl, hb4⟩
      clear hb
      replace hb2 := hb2.trans (hb4.mono hb2.size)
      have bR2 := bR.all hb2
      have r0 := (hb2.cell (p := ⟨w.heap.size, 0, none⟩) hszW).trans q0
      have r1 := (hb2.cell (p := ⟨w.heap.size, 1, none⟩) hszW).trans q1
      have r2 := (hb2.cell (p := ⟨w.heap.size, 2, none⟩) hszW).trans q2
      go_wp2_with fail
      clear r0 r1 r2
      refine (condense_any _ _ _ _ os _ _ _ _ vs _ _ _ xs ((hs.below hb2).more hb2.size) ((hs'.below hb2).more hb2.size) ((hxs.below hb2).more hb2.size) hl hCs.out).mono ?_
      rintro e w3 ⟨u, rfl, hE, hb3⟩
      obtain ⟨A1, n1, c1, F1, p1, f1, z1, D1, m1, e1, rfl, hf⟩ := quotient_form (quotient_rd hE)
      clear hf
      have hzz := bR2.lt
      have bR3 := bR2.all hb3
      have fz0 := bR3.frozen 0
      have fz1 := bR3.frozen 1
      have fz2 := bR3.frozen 2
      have fz3 := bR3.frozen 3
      have cy0 := bR3.cell 0
      have cy1 := bR3.cell 1
      have cy2 := bR3.cell 2
      have cy3 := bR3.cell 3
      have hbt := hbW.trans ((hb2.trans (hb3.mono hb2.size)).mono (Nat.le_of_lt hszW))
      have hb4 := put4_blk (x := .slice A1 n1 c1) (y := .slice F1 p1 f1) (z := .int .i64 z1) (u := .slice D1 m1 e1) bR3
      have p0 := hb4.cell 0
      have p1' := hb4.cell 1
      have p2 := hb4.cell 2
      have p3 := hb4.cell 3
      have hwr : Wr w3 (put4 w3 (w.heap.size + 1) (.slice A1 n1 c1) (.slice F1 p1 f1) (.int .i64 z1) (.slice D1 m1 e1)) (fun b => b = w.heap.size + 1) := put4_wr
      have hfin := hide (And.intro (quotient_wr hE hwr (fun b hb e => by have := hb.1; omega)) (put4_below (x := .slice A1 n1 c1) (y := .slice F1 p1 f1) (z := .int .i64 z1) (u := .slice D1 m1 e1) hbt (show w.heap.size ≤ w.heap.size + 1 by omega)))
      have hszp : (put4 w3 (w.heap.size + 1) (.slice A1 n1 c1) (.slice F1 p1 f1) (.int .i64 z1) (.slice D1 m1 e1)).heap.size = w3.heap.size := put4_size
      have hszp' := hide hszp
      have hsp := hwr.size
      have hspc := hide hsp
      unfold put4 put3 at p0 p1' p2 p3 hfin hszp'
      clear hb4 hE hwr hszp hsp
      go_wp2_with fail
      refine bodyPost_ret (v := .tuple #[.agg #[.slice A1 n1 c1, .slice F1 p1 f1, .int .i64 z1, .slice D1 m1 e1], .int .i64 0]) (by simp [results, Try.results26, go_sem, p0, p1', p2, p3]) rfl ?_
      exact ⟨_, by rw [hC.out], by rw [hV.out]; exact quotient_mono hfin.out.1 (fun b hb => ⟨by have := hb.1; omega, by rw [hszp'.out]; exact hb.2⟩) (fun b hb => hb.2), hfin.out.2⟩
    | false =>
      have hC := hide (codeI_f hk hb)
      have hV := hide (show cqR os D vs xs = ([], [], 0, []) by unfold cqR; rw [hC.out, if_neg (by omega)])
      clear hk
      go_enter Try.func26, Try.ntmps26
      go_wp2_with fail
      obtain ⟨W, hW⟩ : ∃ W, (w.alloc (.cells #[.slice A n c, .int .i64 D, .slice A' vs.length c'] 28)).alloc (.cells #[.slice none 0 0, .slice none 0 0, .int .i64 0, .slice none 0 0] 40) = W := ⟨_, rfl⟩
      have hbW : Below w.heap.size w W := by rw [← hW]; exact (by repeat (first | assumption | exact Below.refl _ _ | apply below_drewN | apply Below.drew | apply Below.alloc | apply Below.setCell | omega | (focus (simp; done)) | (focus (simp; omega))))
      have hszW : w.heap.size < W.heap.size := by rw [← hW]; simp; omega
      have bM : Blk W w.heap.size 28 #[.slice A n c, .int .i64 D, .slice A' vs.length c'] := by rw [← hW]; exact (Blk.new _ _ _).alloc _
      have bR : Blk W (w.heap.size + 1) 40 #[.slice none 0 0, .slice none 0 0, .int .i64 0, .slice none 0 0] := by rw [← hW]; exact Blk.new' _ _ _ _ (by simp)
      have q0 := bM.cell 0
      have q1 := bM.cell 1
      have q2 := bM.cell 2
      rw [hW]
      clear hW
      have hs := (h.below hbW).more (Nat.le_of_lt hszW)
      have hs' := (h'.below hbW).more (Nat.le_of_lt hszW)
      have hxs := (hx.below hbW).more (Nat.le_of_lt hszW)
      refine (hcode _ _ _ _ _ _ _ _ _ _ hs hs' hxs hn hn' hl).mono ?_
      rintro e w2 ⟨rfl, hb2⟩
      have r0 := (hb2.cell (p := ⟨w.heap.size, 0, none⟩) hszW).trans q0
      have r1 := (hb2.cell (p := ⟨w.heap.size, 1, none⟩) hszW).trans q1
      have r2 := (hb2.cell (p := ⟨w.heap.size, 2, none⟩) hszW).trans q2
      have hs2 := (hs.below hb2).more hb2.size
      have hs2' := (hs'.below hb2).more hb2.size
      have hxs2 := (hxs.below hb2).more hb2.size
      go_wp2_with fail
      clear r0 r1 r2
      refine (isIsotropic_any _ _ _ _ os _ _ _ _ _ _ _ _ _ hs2' hxs2 hn' hl HMv.out).mono ?_
      rw [hb]
      rintro e w4 ⟨rfl, hb4⟩
      clear hb
      replace hb2 := hb2.trans (hb4.mono hb2.size)
      have bR2 := bR.all hb2
      have hbel := hbW.trans (hb2.mono (Nat.le_of_lt hszW))
      have fz0 := bR2.frozen 0
      have fz1 := bR2.frozen 1
      have fz2 := bR2.frozen 2
      have fz3 := bR2.frozen 3
      have cy0 := bR2.cell 0
      have cy1 := bR2.cell 1
      have cy2 := bR2.cell 2
      have cy3 := bR2.cell 3
      have hb4 := put4_blk (x := .slice none 0 0) (y := .slice none 0 0) (z := .int .i64 0) (u := .slice none 0 0) bR2
      have p0 := hb4.cell 0
      have p1 := hb4.cell 1
      have p2 := hb4.cell 2
      have p3 := hb4.cell 3
      have hbz := hide (put4_below (x := .slice none 0 0) (y := .slice none 0 0) (z := .int .i64 0) (u := .slice none 0 0) hbel (show w.heap.size ≤ w.heap.size + 1 by omega))
      unfold put4 put3 at p0 p1 p2 p3 hbz
      clear hb4
      go_wp2_with fail
      refine bodyPost_ret (v := .tuple #[.agg #[.slice none 0 0, .slice none 0 0, .int .i64 0, .slice none 0 0], .int .i64 5]) (by simp [results, Try.results26, go_sem, p0, p1, p2, p3]) rfl ?_
      exact ⟨_, by rw [hC.out], by rw [hV.out]; exact quotient_none _ _ (fun b hb => hb.2) 0, hbz.out⟩
  · have hC := hide (show codeI os D vs xs = k by rw [codeI_n (by rw [hk]; exact hk0), hk])
    have hV := hide (show cqR os D vs xs = ([], [], 0, []) by unfold cqR; rw [hC.out, if_neg hk0])
    have hkb' : (k != 0) = true := by simpa using hk0
    clear hk
    go_enter Try.func26, Try.ntmps26
    go_wp2_with fail
    obtain ⟨W, hW⟩ : ∃ W, (w.alloc (.cells #[.slice A n c, .int .i64 D, .slice A' vs.length c'] 28)).alloc (.cells #[.slice none 0 0, .slice none 0 0, .int .i64 0, .slice none 0 0] 40) = W := ⟨_, rfl⟩
    have hbW : Below w.heap.size w W := by rw [← hW]; exact (by repeat (first | assumption | exact Below.refl _ _ | apply below_drewN | apply Below.drew | apply Below.alloc | apply Below.setCell | omega | (focus (simp; done)) | (focus (simp; omega))))
    have hszW : w.heap.size < W.heap.size := by rw [← hW]; simp; omega
    have bM : Blk W w.heap.size 28 #[.slice A n c, .int .i64 D, .slice A' vs.length c'] := by rw [← hW]; exact (Blk.new _ _ _).alloc _
    have bR : Blk W (w.heap.size + 1) 40 #[.slice none 0 0, .slice none 0 0, .int .i64 0, .slice none 0 0] := by rw [← hW]; exact Blk.new' _ _ _ _ (by simp)
    have q0 := bM.cell 0
    have q1 := bM.cell 1
    have q2 := bM.cell 2
    rw [hW]
    clear hW
    have hs := (h.below hbW).more (Nat.le_of_lt hszW)
    have hs' := (h'.below hbW).more (Nat.le_of_lt hszW)
    have hxs := (hx.below hbW).more (Nat.le_of_lt hszW)
    refine (hcode _ _ _ _ _ _ _ _ _ _ hs hs' hxs hn hn' hl).mono ?_
    rintro e w2 ⟨rfl, hb2⟩
    have r0 := (hb2.cell (p := ⟨w.heap.size, 0, none⟩) hszW).trans q0
    have r1 := (hb2.cell (p := ⟨w.heap.size, 1, none⟩) hszW).trans q1
    have r2 := (hb2.cell (p := ⟨w.heap.size, 2, none⟩) hszW).trans q2
    have hs2 := (hs.below hb2).more hb2.size
    have hs2' := (hs'.below hb2).more hb2.size
    have hxs2 := (hxs.below hb2).more hb2.size
    have bR2 := bR.all hb2
    have hbel := hbW.trans (hb2.mono (Nat.le_of_lt hszW))
    have fz0 := bR2.frozen 0
    have fz1 := bR2.frozen 1
    have fz2 := bR2.frozen 2
    have fz3 := bR2.frozen 3
    have cy0 := bR2.cell 0
    have cy1 := bR2.cell 1
    have cy2 := bR2.cell 2
    have cy3 := bR2.cell 3
    have hb4 := put4_blk (x := .slice none 0 0) (y := .slice none 0 0) (z := .int .i64 0) (u := .slice none 0 0) bR2
    have p0 := hb4.cell 0
    have p1 := hb4.cell 1
    have p2 := hb4.cell 2
    have p3 := hb4.cell 3
    have hbz := hide (put4_below (x := .slice none 0 0) (y := .slice none 0 0) (z := .int .i64 0) (u := .slice none 0 0) hbel (show w.heap.size ≤ w.heap.size + 1 by omega))
    unfold put4 put3 at p0 p1 p2 p3 hbz
    clear hb4
    go_wp2_with fail
    refine bodyPost_ret (v := .tuple #[.agg #[.slice none 0 0, .slice none 0 0, .int .i64 0, .slice none 0 0], .int .i64 k]) (by simp [results, Try.results26, go_sem, p0, p1, p2, p3]) rfl ?_
    exact ⟨_, by rw [hC.out], by rw [hV.out]; exact quotient_none _ _ (fun b hb => hb.2) 0, hbz.out⟩
end Go.Proofs.Ytneflhachjlmkaa
