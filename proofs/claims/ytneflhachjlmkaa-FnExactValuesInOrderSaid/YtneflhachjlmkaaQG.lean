
/- The walks of QuotientGauss of both sides. -/
import Derived.Test.YtneflhachjlmkaaQN6
import Derived.Test.YtneflhachjlmkaaP3
namespace Go.Proofs.Ytneflhachjlmkaa
open Go Go.RowKit Grp
set_option linter.unusedSimpArgs false
set_option linter.unusedVariables false
set_option maxRecDepth 100000
/-- What QuotientGauss returns. -/
noncomputable def qgR (os : List Int) (D : Int) (vs xs : List Int) : Int := ((gsum D.toNat 1 (cqR os D vs xs).2.2.2 % 55441 : Nat) : Int)
theorem Cs.values {os vs xs : List Int} {D : Int} (hC : Cs os D vs xs) : ∀ v ∈ (condQ os D vs xs).2.2.2, 0 ≤ v ∧ v < D := by
  intro v hv
  unfold condQ ldO at hv
  simp only at hv
  obtain ⟨y, hy, rfl⟩ := List.mem_map.1 hv
  have h1 := hC.lrng rfl y hy
  have h2 := hC.m.ok.vl (k := y.toNat) (by omega)
  unfold Vl
  exact ⟨h2.2.1, h2.2.2⟩
theorem Cs.vlen {os vs xs : List Int} {D : Int} (hC : Cs os D vs xs) : (condQ os D vs xs).2.2.2.length ≤ 16 := by
  unfold condQ ldO
  simp only [List.length_map]
  exact Nat.le_trans (ldL_len _ _ _ _) (hC.lenO rfl)
theorem cqR_vals (os : List Int) (D : Int) (vs xs : List Int) : (cqR os D vs xs).2.2.2.length ≤ 16 ∧ ((cqR os D vs xs).2.2.2 ≠ [] → codeI os D vs xs = 0) ∧ ∀ v ∈ (cqR os D vs xs).2.2.2, 0 ≤ v ∧ v < D := by
  unfold cqR
  by_cases hk : codeI os D vs xs = 0
  · rw [if_pos hk]
    have hC := (codeI_0 hk).1
    exact ⟨hC.vlen, fun _ => hk, hC.values⟩
  · rw [if_neg hk]
    exact ⟨by simp, fun h => absurd rfl h, by simp⟩
theorem field_Q3 (a b c d : Value) (w : World) : Sem.run Try.prog (Instr.field 40 (.agg #[a, b, c, d]) 3) w = .ok d w := by kernel_rfl
set_option maxHeartbeats 2000000 in
theorem spec_QG_any (w : World) (A : Option Addr) (n c : Nat) (os : List Int) (D : Int) (A' : Option Addr) (n' c' : Nat) (vs : List Int) (L : Option Addr) (l lc : Nat) (xs : List Int)
    (h : Sl w w.heap.size A n c os) (h' : Sl w w.heap.size A' n' c' vs) (hx : Sl w w.heap.size L l lc xs) (hn : n ≤ 1048576) (hn' : n' ≤ 1048576) (hl : l ≤ 1048576) :
    Calls Try.prog 23 #[.agg #[.slice A n c, .int .i64 D, .slice A' n' c'], .slice L l lc] w (Re2 w (qgR os D vs xs) (codeI os D vs xs)) := by
  obtain rfl := h'.len
  obtain rfl := hx.len
  have hcode := fun W A n c A' n' c' LL l lc => l11Isotropy_any W A n c os D A' n' c' vs LL l lc xs
  obtain ⟨k, hk⟩ : ∃ k, codeI os D vs xs = k := ⟨_, rfl⟩
  rw [hk] at hcode
  by_cases hk0 : k = 0
  · subst hk0
    have hCs := hide (codeI_0 hk).1
    have hD := hCs.out.m.ok.d1
    have hD2 := hCs.out.m.ok.d2
    obtain ⟨N, hN⟩ : ∃ N : Nat, D.toNat = N := ⟨_, rfl⟩
    have hND : (N : Int) = D := by omega
    have hV := hide (show qgR os D vs xs = ((gsum N 1 (condQ os D vs xs).2.2.2 % 55441 : Nat) : Int) by unfold qgR cqR; rw [if_pos hk, hN])
    have hvl := hide hCs.out.vlen
    have hvv := hide hCs.out.values
    have hC := hide hk
    obtain ⟨q, hq⟩ : ∃ q, gsum N 1 (condQ os D vs xs).2.2.2 % 55441 = q := ⟨_, rfl⟩
    have hG := fun W B A' n' c' (h : Sl W B A' n' c' (condQ os D vs xs).2.2.2) (hB : B ≤ W.heap.size) (hn : n' ≤ 1048576) => l10Gauss_any W B N A' n' c' _ 1 (by omega) (by omega) h hB hn (by rw [hND]; exact hvv.out)
    rw [hq] at hV
    simp only [hq, hND] at hG
    have HG := hide hG
    clear hk hq hG hN hND
    go_enter Try.func23, Try.ntmps23
    go_wp2_with fail
    obtain ⟨W, hW⟩ : ∃ W, w.alloc (.cells #[.slice A n c, .int .i64 D, .slice A' vs.length c'] 28) = W := ⟨_, rfl⟩
    have hbW : Below w.heap.size w W := by rw [← hW]; exact (by repeat (first | assumption | exact Below.refl _ _ | apply below_drewN | apply Below.drew | apply Below.alloc | apply Below.setCell | omega | (focus (simp; done)) | (focus (simp; omega))))
    have hszW : w.heap.size < W.heap.size := by rw [← hW]; simp
    have hsW := hide (show W.heap.size = w.heap.size + 1 by rw [← hW]; simp)
    have bM : Blk W w.heap.size 28 #[.slice A n c, .int .i64 D, .slice A' vs.length c'] := by rw [← hW]; exact Blk.new _ _ _
    have q0 : W.cell? ⟨w.heap.size, 0, none⟩ = some (.slice A n c) := by rw [← hW]; exact (Blk.new _ _ _).cell 0
    have q1 : W.cell? ⟨w.heap.size, 1, none⟩ = some (.int .i64 D) := by rw [← hW]; exact (Blk.new _ _ _).cell 1
    have q2 : W.cell? ⟨w.heap.size, 2, none⟩ = some (.slice A' vs.length c') := by rw [← hW]; exact (Blk.new _ _ _).cell 2
    rw [hW]
    clear hW
    have hs := (h.below hbW).more (Nat.le_of_lt hszW)
    have hs' := (h'.below hbW).more (Nat.le_of_lt hszW)
    have hxs := (hx.below hbW).more (Nat.le_of_lt hszW)
    refine (hcode _ _ _ _ _ _ _ _ _ _ hs hs' hxs hn hn' hl).mono ?_
    rintro e w2 ⟨rfl, hb2⟩
    have r0 := (hb2.cell (p := ⟨w.heap.size, 0, none⟩) hszW).trans q0
    have r1 := (hb2.cell (p := ⟨w.heap.size, 1, none⟩) hszW).trans q1
    have r2 := (hb2.cell (p := ⟨w.heap.size, 2, none⟩) hszW).trans q2
    have hs2 := (hs.below hb2).more hb2.size
    have hs2' := (hs'.below hb2).more hb2.size
    have hxs2 := (hxs.below hb2).more hb2.size
    go_wp2_with fail
    clear r0 r1 r2
    refine wp_region_be [0, 1, 2, 3, 4, 5, 6, 7, 8] 7 w2.heap.size w2 (by kernel_rfl) (by kernel_rfl) (by kernel_rfl) (fun _ _ _ _ _ h => h) (Below.refl _ _) (fun wd hBe => ?_)
    have hsz2 : w.heap.size < w2.heap.size := Nat.lt_of_lt_of_le hszW hb2.size
    have s0 := (hb2.cell (p := ⟨w.heap.size, 0, none⟩) hszW).trans q0
    have s1 := (hb2.cell (p := ⟨w.heap.size, 1, none⟩) hszW).trans q1
    have s2 := (hb2.cell (p := ⟨w.heap.size, 2, none⟩) hszW).trans q2
    repeat (first | (apply ord_tk rfl (by rfl) (by rfl) (by rfl); (focus (intro wx hSw; have r0 := (hSw.cell (p := ⟨w.heap.size, 0, none⟩) hsz2).trans s0; have r1 := (hSw.cell (p := ⟨w.heap.size, 1, none⟩) hsz2).trans s1; have r2 := (hSw.cell (p := ⟨w.heap.size, 2, none⟩) hsz2).trans s2; go_simp; (try with_reducible rfl))); (try simp only [Act.put, List.setIfInBounds_toArray, List.set_cons_zero, List.set_cons_succ])) | (apply ord_skip rfl (by rfl) (by rfl) (fun _ => hBe); (try simp only [Act.put, List.setIfInBounds_toArray, List.set_cons_zero, List.set_cons_succ])))
    refine ord_do rfl (by rfl) (by rfl) (fun K hK => ?_)
    go_simp
    refine (l11Condense_any _ _ _ _ os _ _ _ _ vs _ _ _ xs ((hs2.below hBe).more hBe.size) ((hs2'.below hBe).more hBe.size) ((hxs2.below hBe).more hBe.size) hl hCs.out).mono ?_
    rintro e w3 ⟨u, rfl, hE, hb3⟩
    obtain ⟨A1, n1, c1, F1, p1, f1, D1, m1, e1, rfl, k1, k2, k3⟩ := quotient_rd hE
    replace hBe := hBe.trans (hb3.mono hBe.size)
    have hml := k3.len
    have hml2 := hvl.out
    clear hb3 hE k1 k2
    refine hK.out _ _ (fun _ => hBe) ?_
    (try simp only [Act.put, List.setIfInBounds_toArray, List.set_cons_zero, List.set_cons_succ])
    clear hK K
    repeat (first | (apply ord_tk rfl (by rfl) (by rfl) (by rfl); (focus (intro wx hSw; have hf := field_Q3 (.slice A1 n1 c1) (.slice F1 p1 f1) (.int .i64 (condQ os D vs xs).2.2.1) (.slice D1 m1 e1) wx; go_simp; (try with_reducible rfl))); (try simp only [Act.put, List.setIfInBounds_toArray, List.set_cons_zero, List.set_cons_succ])) | (apply ord_skip rfl (by rfl) (by rfl) (fun _ => hBe); (try simp only [Act.put, List.setIfInBounds_toArray, List.set_cons_zero, List.set_cons_succ])))
    refine ord_do rfl (by rfl) (by rfl) (fun K hK => ?_)
    go_simp
    refine (HG.out w3 w3.heap.size D1 m1 e1 k3 (Nat.le_refl _) (by omega)).mono ?_
    rintro e w4 ⟨rfl, hb4⟩
    replace hBe := hBe.trans (hb4.mono hBe.size)
    clear hb4 k3
    refine hK.out _ _ (fun _ => hBe) ?_
    (try simp only [Act.put, List.setIfInBounds_toArray, List.set_cons_zero, List.set_cons_succ])
    clear hK K
    refine ord_do rfl (by rfl) (by rfl) (fun K hK => ?_)
    go_simp
    refine hK.out _ _ (fun h => absurd h (by omega)) ?_
    (try simp only [Act.put, List.setIfInBounds_toArray, List.set_cons_zero, List.set_cons_succ])
    clear hK K
    refine ord_do rfl (by rfl) (by rfl) (fun K hK => ?_)
    go_simp
    refine hK.out _ _ (fun h => absurd h (by omega)) ?_
    (try simp only [Act.put, List.setIfInBounds_toArray, List.set_cons_zero, List.set_cons_succ])
    clear hK K
    refine ord_nil ?_
    go_wp2_with fail
    refine bodyPost_ret (v := .tuple #[.int .i64 q, .int .i64 0]) (by simp [results, Try.results23, go_sem]) rfl ?_
    exact ⟨by rw [hV.out, hC.out], hbW.trans ((hb2.trans (hBe.mono hb2.size)).mono (Nat.le_of_lt hszW))⟩
  · have hV := hide (show qgR os D vs xs = 0 by unfold qgR cqR; rw [hk, if_neg hk0]; simp [gsum])
    have hkb' : (k != 0) = true := by simpa using hk0
    have hC := hide hk
    clear hk
    go_enter Try.func23, Try.ntmps23
    go_wp2_with fail
    obtain ⟨W, hW⟩ : ∃ W, w.alloc (.cells #[.slice A n c, .int .i64 D, .slice A' vs.length c'] 28) = W := ⟨_, rfl⟩
    have hbW : Below w.heap.size w W := by rw [← hW]; exact (by repeat (first | assumption | exact Below.refl _ _ | apply below_drewN | apply Below.drew | apply Below.alloc | apply Below.setCell | omega | (focus (simp; done)) | (focus (simp; omega))))
    have hszW : w.heap.size < W.heap.size := by rw [← hW]; simp
    have hsW := hide (show W.heap.size = w.heap.size + 1 by rw [← hW]; simp)
    have bM : Blk W w.heap.size 28 #[.slice A n c, .int .i64 D, .slice A' vs.length c'] := by rw [← hW]; exact Blk.new _ _ _
    have q0 : W.cell? ⟨w.heap.size, 0, none⟩ = some (.slice A n c) := by rw [← hW]; exact (Blk.new _ _ _).cell 0
    have q1 : W.cell? ⟨w.heap.size, 1, none⟩ = some (.int .i64 D) := by rw [← hW]; exact (Blk.new _ _ _).cell 1
    have q2 : W.cell? ⟨w.heap.size, 2, none⟩ = some (.slice A' vs.length c') := by rw [← hW]; exact (Blk.new _ _ _).cell 2
    rw [hW]
    clear hW
    have hs := (h.below hbW).more (Nat.le_of_lt hszW)
    have hs' := (h'.below hbW).more (Nat.le_of_lt hszW)
    have hxs := (hx.below hbW).more (Nat.le_of_lt hszW)
    refine (hcode _ _ _ _ _ _ _ _ _ _ hs hs' hxs hn hn' hl).mono ?_
    rintro e w2 ⟨rfl, hb2⟩
    have r0 := (hb2.cell (p := ⟨w.heap.size, 0, none⟩) hszW).trans q0
    have r1 := (hb2.cell (p := ⟨w.heap.size, 1, none⟩) hszW).trans q1
    have r2 := (hb2.cell (p := ⟨w.heap.size, 2, none⟩) hszW).trans q2
    have hs2 := (hs.below hb2).more hb2.size
    have hs2' := (hs'.below hb2).more hb2.size
    have hxs2 := (hxs.below hb2).more hb2.size
    go_wp2_with fail
    clear r0 r1 r2
    refine bodyPost_ret (v := .tuple #[.int .i64 0, .int .i64 k]) (by simp [results, Try.results23, go_sem]) rfl ?_
    exact ⟨by rw [hV.out, hC.out], hbW.trans (hb2.mono (Nat.le_of_lt hszW))⟩
set_option maxHeartbeats 2000000 in
theorem impl_QG_any (w : World) (A : Option Addr) (n c : Nat) (os : List Int) (D : Int) (A' : Option Addr) (n' c' : Nat) (vs : List Int) (L : Option Addr) (l lc : Nat) (xs : List Int)
    (h : Sl w w.heap.size A n c os) (h' : Sl w w.heap.size A' n' c' vs) (hx : Sl w w.heap.size L l lc xs) (hn : n ≤ 1048576) (hn' : n' ≤ 1048576) (hl : l ≤ 1048576) :
    Calls Try.prog 24 #[.agg #[.slice A n c, .int .i64 D, .slice A' n' c'], .slice L l lc] w (Re2 w (qgR os D vs xs) (codeI os D vs xs)) := by
  obtain rfl := h'.len
  obtain rfl := hx.len
  have hcall := fun W A n c A' n' c' LL l lc => impl_Cond_any W A n c os D A' n' c' vs LL l lc xs
  obtain ⟨k, hk⟩ : ∃ k, codeI os D vs xs = k := ⟨_, rfl⟩
  rw [hk] at hcall
  obtain ⟨hvl, hv0, hvv⟩ := cqR_vals os D vs xs
  have hDD : (cqR os D vs xs).2.2.2 ≠ [] → 1 ≤ D ∧ D ≤ 55440 := fun h => by
    have hM := (codeI_0 (hv0 h)).1.m.ok
    exact ⟨hM.d1, hM.d2⟩
  have hVR : qgR os D vs xs = ((gsum D.toNat 1 (cqR os D vs xs).2.2.2 % 55441 : Nat) : Int) := rfl
  obtain ⟨V, hV⟩ : ∃ V, (cqR os D vs xs).2.2.2 = V := ⟨_, rfl⟩
  rw [hV] at hvl hvv hDD hVR
  have HV := hide hV
  have HVV := hide hvv
  have HDD := hide hDD
  have HVR := hide hVR
  have hC := hide hk
  clear hk hV hvv hDD hVR hv0
  go_enter Try.func24, Try.ntmps24
  go_wp2_with fail
  obtain ⟨W, hW⟩ : ∃ W, w.alloc (.cells #[.slice A n c, .int .i64 D, .slice A' vs.length c'] 28) = W := ⟨_, rfl⟩
  have hbW : Below w.heap.size w W := by rw [← hW]; exact (by repeat (first | assumption | exact Below.refl _ _ | apply below_drewN | apply Below.drew | apply Below.alloc | apply Below.setCell | omega | (focus (simp; done)) | (focus (simp; omega))))
  have hszW : w.heap.size < W.heap.size := by rw [← hW]; simp
  have hsW := hide (show W.heap.size = w.heap.size + 1 by rw [← hW]; simp)
  have bM : Blk W w.heap.size 28 #[.slice A n c, .int .i64 D, .slice A' vs.length c'] := by rw [← hW]; exact Blk.new _ _ _
  have q0 : W.cell? ⟨w.heap.size, 0, none⟩ = some (.slice A n c) := by rw [← hW]; exact (Blk.new _ _ _).cell 0
  have q1 : W.cell? ⟨w.heap.size, 1, none⟩ = some (.int .i64 D) := by rw [← hW]; exact (Blk.new _ _ _).cell 1
  have q2 : W.cell? ⟨w.heap.size, 2, none⟩ = some (.slice A' vs.length c') := by rw [← hW]; exact (Blk.new _ _ _).cell 2
  rw [hW]
  clear hW
  have hs := (h.below hbW).more (Nat.le_of_lt hszW)
  have hs' := (h'.below hbW).more (Nat.le_of_lt hszW)
  have hxs := (hx.below hbW).more (Nat.le_of_lt hszW)
  refine (hcall _ _ _ _ _ _ _ _ _ _ hs hs' hxs hn hn' hl).mono ?_
  rintro e w2 ⟨u, rfl, hE, hb2⟩
  obtain ⟨A1, n1, c1, F1, p1, f1, D1, m1, e1, rfl, k1, k2, k3⟩ := quotient_rd hE
  rw [HV.out] at k3
  obtain ⟨z1, hz1⟩ : ∃ z, (cqR os D vs xs).2.2.1 = z := ⟨_, rfl⟩
  rw [hz1]
  obtain rfl := k3.len
  clear hE k1 k2 hz1
  go_wp2_with fail
  obtain ⟨W3, hW3⟩ : ∃ W3, w2.alloc (.cells #[.slice A1 n1 c1, .slice F1 p1 f1, .int .i64 z1, .slice D1 V.length e1] 40) = W3 := ⟨_, rfl⟩
  have hB3 : Below W.heap.size W W3 := by rw [← hW3]; exact hb2.alloc hb2.size _
  have k4 : Sl W3 W3.heap.size D1 V.length e1 V := by rw [← hW3]; exact (k3.alloc (Nat.le_refl _) _).more (by simp)
  have hR3 := hide (show gsum D.toNat 1 (V.take 0) = 0 by simp [gsum])
  try rw [hW3]
  clear hW3 k3
  go_loopw [8, 20] (fun s i wr => ∃ j q : Nat, j ≤ V.length ∧ i = .int .i64 j ∧ s = .int .i64 q ∧ Hid (q = gsum D.toNat 1 (V.take j)) ∧ Below W3.heap.size W3 wr) (fun _ i _ => V.length - (intOf i).toNat)
  case atStart => exact ⟨0, 0, by omega, rfl, rfl, hide hR3.out.symm, Below.refl _ _⟩
  case round =>
    obtain ⟨j, q, hj, rfl, rfl, hq, hBe⟩ := hrel
    have hb := gsum_le D.toNat 1 (V.take j)
    rw [← hq.out, List.length_take, Nat.min_eq_left hj] at hb
    by_cases hlt : j < V.length
    · obtain ⟨b, off, rfl, hb', hc⟩ := k4.at_ (by omega)
      have cv := (hBe.cell (p := ⟨b, off + j, none⟩) hb').trans (hc j hlt)
      clear hc
      obtain ⟨d1, d2⟩ := HDD.out (by intro e; rw [e] at hlt; simp at hlt)
      obtain ⟨N, rfl⟩ : ∃ N : Nat, D = (N : Int) := ⟨D.toNat, by omega⟩
      simp only [Int.toNat_natCast] at hq HVR hb
      have hS := hide (gsum_snoc N 1 hlt)
      obtain ⟨v, ev⟩ : ∃ v, gi V j = v := ⟨_, rfl⟩
      rw [ev, Int.mul_one] at hS
      rw [ev] at cv
      clear ev
      have hPv := fun W' => rootPower_any W' A n c N A' vs.length c' v (by omega) (by omega)
      have hrl := rp_lt N v
      obtain ⟨r, hr⟩ : ∃ r, rp N v = r := ⟨_, rfl⟩
      rw [hr] at hS hPv hrl
      clear hr
      have hBW := hB3.trans (hBe.mono hB3.size)
      have r0 := (hBW.cell (p := ⟨w.heap.size, 0, none⟩) hszW).trans q0
      have r1 := (hBW.cell (p := ⟨w.heap.size, 1, none⟩) hszW).trans q1
      have r2 := (hBW.cell (p := ⟨w.heap.size, 2, none⟩) hszW).trans q2
      clear hBW
      go_wp2_with fail
      clear r0 r1 r2
      refine (hPv _).mono ?_
      rintro e w5 ⟨rfl, hb5⟩
      have hBe2 := hBe.trans (hb5.mono hBe.size)
      go_wp2_with fail
      go_roundw
      case rel => exact ⟨j + 1, q + r, by omega, by go_num, int_eq (by omega), hide (by rw [Int.toNat_natCast, hS.out, hq.out]), hBe2⟩
      case measure => simp [intOf] <;> omega
    · obtain rfl : j = V.length := by omega
      have hE := hide (show qgR os D vs xs = ((q % 55441 : Nat) : Int) by rw [HVR.out, hq.out, List.take_length])
      have hm0 : (q : Int).tmod 55441 = ((q % 55441 : Nat) : Int) := by rw [Int.tmod_eq_emod_of_nonneg (by omega)]; omega
      go_wp2_with fail
      refine bodyPost_ret (v := .tuple #[.int .i64 ((q % 55441 : Nat) : Int), .int .i64 k]) (by simp [results, Try.results24, go_sem]) rfl ?_
      exact ⟨by rw [hE.out, hC.out], hbW.trans ((hB3.trans (hBe.mono hB3.size)).mono (Nat.le_of_lt hszW))⟩
end Go.Proofs.Ytneflhachjlmkaa
