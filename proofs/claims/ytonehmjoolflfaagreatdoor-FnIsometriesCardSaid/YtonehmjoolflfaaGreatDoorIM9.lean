
/- The walk of the closure extend of eachIsometry, the recursion. -/
import Derived.Test.YtonehmjoolflfaaGreatDoorIMc
namespace Go.Proofs.YtonehmjoolflfaaGreatDoor
open Go Go.RowKit Grp
set_option linter.unusedSimpArgs false
set_option linter.unusedVariables false
set_option maxRecDepth 100000
theorem gen_nat {T : Two} (hT : TwoOk T) {p : Nat} (hp : p < T.os.length) : ∃ x : Nat, T.gen p = x ∧ x < T.vs.length := by
  have hOs := hT.M.ok.g
  obtain ⟨x, hx⟩ : ∃ x : Nat, prodL (T.os.drop (p + 1)) = x := ⟨(prodL (T.os.drop (p + 1))).toNat, by have := (prodL_drop hOs (p + 1)).1; omega⟩
  refine ⟨x, hx, ?_⟩
  have h1 : prodL (T.os.drop p) = gi T.os p * prodL (T.os.drop (p + 1)) := prodL_at hp
  have h2 := hOs.m2 _ (gi_mem hp)
  have h3 : prodL T.os = prodL (T.os.take p) * prodL (T.os.drop p) := by rw [← prodL_append, List.take_append_drop]
  have h4 : 1 ≤ prodL (T.os.take p) := prodL_pos fun m hm => hOs.pos m (List.mem_of_mem_take hm)
  have h5 := (prodL_drop hOs p).1
  have h6 := (prodL_drop hOs (p + 1)).1
  have h7 : 1 * prodL (T.os.drop p) ≤ prodL (T.os.take p) * prodL (T.os.drop p) := Int.mul_le_mul_of_nonneg_right h4 (by omega)
  have h8 : 2 * prodL (T.os.drop (p + 1)) ≤ gi T.os p * prodL (T.os.drop (p + 1)) := Int.mul_le_mul_of_nonneg_right h2 (by omega)
  have h9 := hT.nos
  have h10 := hT.len
  omega
theorem Two.part_pre (T : Two) (k : Nat) (pre : List Int) (j : Nat) : ∀ d, ∃ t, T.part k pre (j + d) = T.part k pre j ++ t := by
  intro d
  induction d with
  | zero => exact ⟨[], by simp⟩
  | succ d ih =>
    obtain ⟨t, ht⟩ := ih
    cases hc : T.cand (T.os.length - (k + 1)) (j + d) with
    | false => exact ⟨t, by rw [← Nat.add_assoc, T.part_no hc, ht]⟩
    | true => exact ⟨t ++ T.isos k (pre ++ [((j + d : Nat) : Int)]), by rw [← Nat.add_assoc, T.part_yes hc, ht, List.append_assoc]⟩
set_option maxHeartbeats 8000000 in
theorem extend_any {C : Cf} (ok : CfOk C) (Acc : World → List (List Int) → Prop) (Fin : World → List Int → Prop)
    (hacc : ∀ W W' acc, Acc W acc → Wr W W' (fun b => C.w.heap.size ≤ b) → Acc W' acc)
    (hfe : ∀ args w, (callFunc C.fe args).run Tryz.prog w = .ok (.enter C.fe args) w)
    (hen : ∀ W pre acc A c, Sl W W.heap.size A C.L c pre → Acc W acc → Below C.B0 C.w W → Calls Tryz.prog C.fe #[.slice A C.L c, .pointer (some ⟨C.X, 0, none⟩)] W (fun e W' => e = .returned (.bool C.stop) ∧ (C.stop = false → Acc W' (acc ++ [pre])) ∧ (C.stop = true → Fin W' pre) ∧ Wr W W' (fun b => b = C.X))) :
    ∀ (r : Nat) (pre : List Int) (v : Value) (W : World) (acc : List (List Int)), ExI C pre v W → Acc W acc → pre.length + r = C.L → (∀ y ∈ pre, 0 ≤ y ∧ y < C.T.us.length) →
      Calls Tryz.prog 64 #[.pointer (some ⟨C.a3, 0, none⟩), .pointer (some ⟨C.a4, 0, none⟩), .pointer (some ⟨C.a6, 0, none⟩), .pointer (some ⟨C.a2, 0, none⟩), .pointer (some ⟨C.a1, 0, none⟩), .pointer (some ⟨C.a0, 0, none⟩), .pointer (some ⟨C.a5, 0, none⟩), .pointer (some ⟨C.a7, 0, none⟩)] W (ExP C Acc Fin r pre acc) := by
  have hL := ok.hL
  have hN := ok.hN
  intro r
  induction r with
  | zero =>
    intro pre v W acc hE hA hl hi
    have hpr : ∀ y ∈ pre, i64ok y := fun y hy => by have := hi y hy; have := ok.hT.n16; exact ⟨by omega, by omega⟩
    obtain ⟨Ai, ci, rfl, hS⟩ := hE.im.sl hpr
    have hpl : pre.length = C.L := by omega
    rw [hpl] at hE hS
    have hIs := hide (isIso_any W C.T ok.hT C.A C.L C.c C.B C.N C.k C.A2 C.n2 C.c2 C.B2 C.N C.k2 Ai C.L ci pre C.a0 C.a1 C.a3 C.a5 ((ok.h.below hE.fr).more (by have := ok.hB; have := ok.hX; have := hE.sz; omega)) ((ok.h'.below hE.fr).more (by have := ok.hB; have := ok.hX; have := hE.sz; omega)) ((ok.g.below hE.fr).more (by have := ok.hB; have := ok.hX; have := hE.sz; omega)) ((ok.g'.below hE.fr).more (by have := ok.hB; have := ok.hX; have := hE.sz; omega)) hS (by omega) hi hE.b0 hE.b1 hE.b3 hE.b5)
    have hR := hide (show C.T.isos 0 pre = if C.T.iso pre = true then [pre] else [] from rfl)
    obtain ⟨is, his⟩ : ∃ b, C.T.iso pre = b := ⟨_, rfl⟩
    rw [his] at hIs hR
    have c3 := hE.b3.cell 0
    have c4 := hE.b4.cell 0
    have c6 := hE.b6.cell 0
    clear his
    cases is with
    | false =>
      go_enter Tryz.func64, Tryz.ntmps64
      go_wp2_with fail
      clear c3 c4 c6
      refine hIs.out.mono ?_
      rintro e w2 ⟨rfl, hb2⟩
      go_wp2_with fail
      go_ret
      have hR2 : C.T.isos 0 pre = [] := by rw [hR.out]; rfl
      exact .inl ⟨rfl, ⟨_, hE.below ok hb2⟩, by rw [hR2, List.append_nil]; exact hacc _ _ _ hA (Wr.of_below hb2), fun _ => hR2⟩
    | true =>
      go_enter Tryz.func64, Tryz.ntmps64
      go_wp2_with fail
      clear c3 c4 c6
      refine hIs.out.mono ?_
      rintro e w2 ⟨rfl, hb2⟩
      have hE2 := hE.below ok hb2
      have c2 := hE2.b2.cell 0
      have c3 := hE2.b3.cell 0
      have hEn := hide (hen w2 pre acc Ai ci ((hS.below hb2).more hb2.size) (hacc _ _ _ hA (Wr.of_below hb2)) hE2.fr)
      go_wp2_with fail
      refine hEn.out.mono ?_
      rintro e w3 ⟨rfl, hA3, hF3, hW3⟩
      have hR2 : C.T.isos 0 pre = [pre] := by rw [hR.out]; rfl
      have hE3 := hE2.wr ok hW3
      have hPo : ExP C Acc Fin 0 pre acc (.returned (.bool C.stop)) w3 := by
        cases hst : C.stop with
        | false => exact .inl ⟨rfl, ⟨_, hE3⟩, by rw [hR2]; exact hA3 hst, fun h => by rw [hst] at h; cases h⟩
        | true => exact .inr ⟨hst, pre, [], hR2, rfl, hF3 hst, hE3.fr⟩
      have HPo := hide hPo
      clear hPo hA3 hF3
      go_wp2_with fail
      go_ret
      exact HPo.out
  | succ r ih =>
    intro pre v W acc hE hA hl hi
    have h16 := ok.hT.n16
    rw [hN] at h16
    have hOs := ok.hT.M.ok.g
    have hos4 := hOs.l4
    rw [hL] at hos4
    have hD1 := ok.hT.M.ok.d1
    have hD2 := ok.hT.M.ok.d2
    have hE1 := ok.hT.N.ok.d1
    have hE2 := ok.hT.N.ok.d2
    have hBX := ok.hB
    have hXw := ok.hX
    obtain ⟨Ai, ci, rfl⟩ := hE.im.val
    obtain ⟨p, hp⟩ : ∃ p, pre.length = p := ⟨_, rfl⟩
    have HP := hide hp
    rw [hp] at hE hl
    have hpL : p < C.L := by omega
    have hne : ((p : Int) == (C.L : Int)) = false := by rw [beq_eq_false_iff_ne]; omega
    have hpi : (p : Int) < (C.L : Int) := by omega
    have hp0 : (0 : Int) ≤ (p : Int) := by omega
    have hSz := hide (fun (W2 : World) => size_any W2 (.slice C.A2 C.n2 C.c2) (.int .i64 C.T.E) C.B2 C.N C.k2)
    have hp0' := hide (show C.T.part r pre 0 = [] from C.T.part_zero r pre)
    have c1 := hE.b1.cell 0
    have d1 := hE.b1.cell 1
    have e1 := hE.b1.cell 2
    have c3 := hE.b3.cell 0
    have c4 := hE.b4.cell 0
    clear hp
    go_enter Tryz.func64, Tryz.ntmps64
    go_wp2_with fail
    clear c1 d1 e1 c3 c4
    refine (hSz.out _).mono ?_
    rintro e w2 ⟨rfl, hb2⟩
    have hE2' := hE.below ok hb2
    have hA2 := hacc _ _ _ hA (Wr.of_below hb2)
    clear hE hA hb2 hSz
    go_wp2_with fail
    go_loopw [26] (fun y wr => ∃ (j : Nat) (v : Value), j ≤ C.N ∧ y = .int .i64 j ∧ ExI C pre v wr ∧ Acc wr (acc ++ C.T.part r pre j) ∧ (C.stop = true → C.T.part r pre j = [])) (fun y _ => C.N - (intOf y).toNat)
    case atStart => exact ⟨0, _, by omega, rfl, hE2', by rw [hp0'.out, List.append_nil]; exact hA2, fun _ => hp0'.out⟩
    case round =>
      clear hE2' hA2
      obtain ⟨j, v, hj, rfl, hE, hA, hst⟩ := hrel
      have HSt := hide hst
      clear hst
      obtain ⟨Ai, ci, rfl⟩ := hE.im.val
      rw [HP.out] at hE
      have hsz := hE.sz
      by_cases hlt : j < C.N
      · have hjN : j < C.T.us.length := by rw [hN]; exact hlt
        have hpo : p < C.T.os.length := by rw [hL]; exact hpL
        obtain ⟨x, hgx, hxN⟩ := gen_nat ok.hT hpo
        have hsl := fun (W2 : World) (hb : Below wr.heap.size wr W2) => (show Below C.B0 C.w W2 ∧ C.B0 ≤ W2.heap.size from ⟨hE.fr.trans (hb.mono (by omega)), by have := hb.size; omega⟩)
        have hOrd := hide (fun (W2 : World) (hb : Below wr.heap.size wr W2) => orderOf_any W2 C.A2 C.n2 C.c2 C.T.ps C.T.E C.B2 C.N C.k2 j ((ok.g.below (hsl W2 hb).1).more (hsl W2 hb).2) ok.hT.N.ok.g (by omega) (by rw [ok.hT.nps]; omega))
        have hVa := hide (fun (W2 : World) (hb : Below wr.heap.size wr W2) => valF_any W2 C.T.D C.B C.N C.k C.T.vs x ((ok.h'.below (hsl W2 hb).1).more (hsl W2 hb).2) ⟨hD1, hD2⟩ (fun v hv => ok.hT.M.ok.rng v hv) hxN C.A C.L C.c)
        have hVb := hide (fun (W2 : World) (hb : Below wr.heap.size wr W2) => valF_any W2 C.T.E C.B2 C.N C.k2 C.T.us j ((ok.g'.below (hsl W2 hb).1).more (hsl W2 hb).2) ⟨hE1, hE2⟩ (fun v hv => ok.hT.N.ok.rng v hv) hjN C.A2 C.n2 C.c2)
        have hAl := hide (al_prog (a := gi C.T.vs x) (b := gi C.T.us j) (show (0 : Int) < 55440 by omega) (ord_div ok.hT.M.ord hD1) (ord_div ok.hT.N.ord hE1))
        have hpe : C.T.os.length - (r + 1) = p := by omega
        have HC := hide (show C.T.cand (C.T.os.length - (r + 1)) j = ((gi C.T.os p == ordN C.T.ps j) && (gi C.T.vs x * (55440 / C.T.D) == gi C.T.us j * (55440 / C.T.E))) by
          rw [hpe, hAl.out]; unfold Two.cand; rw [hgx, show (gi C.T.os p == ordN C.T.ps j) = decide (ordN C.T.ps j = gi C.T.os p) by rw [Bool.eq_iff_iff, beq_iff_eq, decide_eq_true_eq]; exact eq_comm]; rfl)
        have HPj := hide (show (((gi C.T.os p == ordN C.T.ps j) && (gi C.T.vs x * (55440 / C.T.D) == gi C.T.us j * (55440 / C.T.E))) = false → C.T.part r pre (j + 1) = C.T.part r pre j) ∧ (((gi C.T.os p == ordN C.T.ps j) && (gi C.T.vs x * (55440 / C.T.D) == gi C.T.us j * (55440 / C.T.E))) = true → C.T.part r pre (j + 1) = C.T.part r pre j ++ C.T.isos r (pre ++ [(j : Int)])) from
          ⟨fun hh => C.T.part_no (by rw [HC.out]; exact hh), fun hh => C.T.part_yes (by rw [HC.out]; exact hh)⟩)
        obtain ⟨ab, ao, hAe, hab0, hac⟩ := ok.h.at_ (by omega)
        have hab : ab < wr.heap.size := by omega
        have cp := (hE.fr.cell (p := ⟨ab, ao + p, none⟩) hab0).trans (hac p hpL)
        have hgr : ∀ y ∈ genL C.T.os, i64ok y := fun y hy => by
          obtain ⟨i, hi, rfl⟩ := List.mem_map.1 hy
          have := prodL_drop hOs (i + 1)
          exact ⟨by omega, by omega⟩
        obtain ⟨A9, c9, e9, hOw⟩ := hE.ow.sl hgr
        rw [genL_len, hL] at e9 hOw
        injection e9 with e9 _ e9'
        subst e9'
        rw [← e9] at hOw
        obtain ⟨ob, oo, hOe, hob, hoc⟩ := hOw.at_ (by omega)
        have cx := hoc p hpL
        rw [genL_at hpo, show prodL (C.T.os.drop (p + 1)) = x from hgx] at cx
        obtain ⟨ov, hov⟩ : ∃ v, ordN C.T.ps j = v := ⟨_, rfl⟩
        obtain ⟨mv, hmv⟩ : ∃ v, gi C.T.os p = v := ⟨_, rfl⟩
        obtain ⟨va, hva⟩ : ∃ v, gi C.T.vs x * (55440 / C.T.D) = v := ⟨_, rfl⟩
        obtain ⟨vb, hvb⟩ : ∃ v, gi C.T.us j * (55440 / C.T.E) = v := ⟨_, rfl⟩
        rw [hov, hmv, hva, hvb] at HPj
        rw [hov] at hOrd
        rw [hmv] at cp
        rw [hva] at hVa
        rw [hvb] at hVb
        have r0 := hE.b0.cell 0
        have r1 := hE.b0.cell 1
        have r2 := hE.b0.cell 2
        have s0 := hE.b1.cell 0
        have s1 := hE.b1.cell 1
        have s2 := hE.b1.cell 2
        have c4 := hE.b4.cell 0
        have c5 := hE.b5.cell 0
        have l0 := hE.b0.lt
        have l1 := hE.b1.lt
        have l4 := hE.b4.lt
        have l5 := hE.b5.lt
        rw [hAe] at r0 r1 r2 hVa
        rw [hOe] at c4
        have hj0 : (0 : Int) ≤ (j : Int) := by omega
        clear hov hmv hva hvb hac hoc hOw hgr HC hAl hpe hsl hAe hOe e9 hgx
        go_wp2_with fail
        cases hc1 : (mv == ov) with
        | false =>
          have hb1 : (mv != ov) = true := by simp [bne, hc1]
          rw [hc1] at HPj
          refine wp_region_be [0, 1, 2, 3, 4, 5, 6, 7, 8, 9, 10, 11, 12, 13, 14, 15, 17, 18, 19, 16, 20, 21, 22] 23 wr.heap.size wr (by kernel_rfl) (by kernel_rfl) (by kernel_rfl) (fun _ _ _ _ _ h => h) (Below.refl _ _) (fun wd hBe => ?_)
          repeat (first | (apply ord_tk rfl (by rfl) (by rfl) (by rfl); (focus (intro wx hSw; have a0 := (hSw.cell (p := ⟨C.a0, 0, none⟩) l0).trans r0; have a1 := (hSw.cell (p := ⟨C.a0, 1, none⟩) l0).trans r1; have a2 := (hSw.cell (p := ⟨C.a0, 2, none⟩) l0).trans r2; have a3 := (hSw.cell (p := ⟨C.a1, 0, none⟩) l1).trans s0; have a4 := (hSw.cell (p := ⟨C.a1, 1, none⟩) l1).trans s1; have a5 := (hSw.cell (p := ⟨C.a1, 2, none⟩) l1).trans s2; have a6 := (hSw.cell (p := ⟨C.a4, 0, none⟩) l4).trans c4; have a7 := (hSw.cell (p := ⟨C.a5, 0, none⟩) l5).trans c5; have a8 := (hSw.cell (p := ⟨ab, ao + p, none⟩) hab).trans cp; have a9 := (hSw.cell (p := ⟨ob, oo + p, none⟩) hob).trans cx; go_simp; (try with_reducible rfl))); (try simp only [Act.put, List.setIfInBounds_toArray, List.set_cons_zero, List.set_cons_succ])) | (apply ord_skip rfl (by rfl) (by rfl) (fun _ => hBe); (try simp only [Act.put, List.setIfInBounds_toArray, List.set_cons_zero, List.set_cons_succ])))
          refine ord_do rfl (by rfl) (by rfl) (fun K hK => ?_)
          go_simp
          refine (hOrd.out _ hBe).mono ?_
          rintro e wd' ⟨rfl, hwd⟩
          replace hBe := hBe.trans (hwd.mono hBe.size)
          clear hwd
          refine hK.out _ _ (fun _ => hBe) ?_
          (try simp only [Act.put, List.setIfInBounds_toArray, List.set_cons_zero, List.set_cons_succ])
          clear hK K
          repeat (first | (apply ord_tk rfl (by rfl) (by rfl) (by rfl); (focus (intro wx hSw; have a0 := (hSw.cell (p := ⟨C.a0, 0, none⟩) l0).trans r0; have a1 := (hSw.cell (p := ⟨C.a0, 1, none⟩) l0).trans r1; have a2 := (hSw.cell (p := ⟨C.a0, 2, none⟩) l0).trans r2; have a3 := (hSw.cell (p := ⟨C.a1, 0, none⟩) l1).trans s0; have a4 := (hSw.cell (p := ⟨C.a1, 1, none⟩) l1).trans s1; have a5 := (hSw.cell (p := ⟨C.a1, 2, none⟩) l1).trans s2; have a6 := (hSw.cell (p := ⟨C.a4, 0, none⟩) l4).trans c4; have a7 := (hSw.cell (p := ⟨C.a5, 0, none⟩) l5).trans c5; have a8 := (hSw.cell (p := ⟨ab, ao + p, none⟩) hab).trans cp; have a9 := (hSw.cell (p := ⟨ob, oo + p, none⟩) hob).trans cx; go_simp; (try with_reducible rfl))); (try simp only [Act.put, List.setIfInBounds_toArray, List.set_cons_zero, List.set_cons_succ])) | (apply ord_skip rfl (by rfl) (by rfl) (fun _ => hBe); (try simp only [Act.put, List.setIfInBounds_toArray, List.set_cons_zero, List.set_cons_succ])))
          refine ord_nil ?_
          have hBf := hBe
          clear hBe
          have hPn := HPj.out.1 rfl
          have hE5 := hE.below ok hBf
          have hA5 := hacc _ _ _ hA (Wr.of_below hBf)
          have hSt5 : C.stop = true → C.T.part r pre (j + 1) = [] := fun h => by rw [hPn]; exact HSt.out h
          rw [← hPn] at hA5
          have HSt5 := hide hSt5
          clear hPn hSt5 hE hA
          go_wp2_with fail
          go_roundw
          case rel => exact ⟨j + 1, _, by omega, by go_num, hE5, hA5, HSt5.out⟩
          case measure => simp [intOf] <;> omega
        | true =>
          have hb1 : (mv != ov) = false := by simp [bne, hc1]
          rw [hc1, Bool.true_and] at HPj
          cases hc2 : (va == vb) with
          | false =>
            have hb2 : (va != vb) = true := by simp [bne, hc2]
            rw [hc2] at HPj
            refine wp_region_be [0, 1, 2, 3, 4, 5, 6, 7, 8, 9, 10, 11, 12, 13, 14, 15, 17, 18, 19, 16, 20, 21, 22] 23 wr.heap.size wr (by kernel_rfl) (by kernel_rfl) (by kernel_rfl) (fun _ _ _ _ _ h => h) (Below.refl _ _) (fun wd hBe => ?_)
            repeat (first | (apply ord_tk rfl (by rfl) (by rfl) (by rfl); (focus (intro wx hSw; have a0 := (hSw.cell (p := ⟨C.a0, 0, none⟩) l0).trans r0; have a1 := (hSw.cell (p := ⟨C.a0, 1, none⟩) l0).trans r1; have a2 := (hSw.cell (p := ⟨C.a0, 2, none⟩) l0).trans r2; have a3 := (hSw.cell (p := ⟨C.a1, 0, none⟩) l1).trans s0; have a4 := (hSw.cell (p := ⟨C.a1, 1, none⟩) l1).trans s1; have a5 := (hSw.cell (p := ⟨C.a1, 2, none⟩) l1).trans s2; have a6 := (hSw.cell (p := ⟨C.a4, 0, none⟩) l4).trans c4; have a7 := (hSw.cell (p := ⟨C.a5, 0, none⟩) l5).trans c5; have a8 := (hSw.cell (p := ⟨ab, ao + p, none⟩) hab).trans cp; have a9 := (hSw.cell (p := ⟨ob, oo + p, none⟩) hob).trans cx; go_simp; (try with_reducible rfl))); (try simp only [Act.put, List.setIfInBounds_toArray, List.set_cons_zero, List.set_cons_succ])) | (apply ord_skip rfl (by rfl) (by rfl) (fun _ => hBe); (try simp only [Act.put, List.setIfInBounds_toArray, List.set_cons_zero, List.set_cons_succ])))
            refine ord_do rfl (by rfl) (by rfl) (fun K hK => ?_)
            go_simp
            refine (hOrd.out _ hBe).mono ?_
            rintro e wd' ⟨rfl, hwd⟩
            replace hBe := hBe.trans (hwd.mono hBe.size)
            clear hwd
            refine hK.out _ _ (fun _ => hBe) ?_
            (try simp only [Act.put, List.setIfInBounds_toArray, List.set_cons_zero, List.set_cons_succ])
            clear hK K
            repeat (first | (apply ord_tk rfl (by rfl) (by rfl) (by rfl); (focus (intro wx hSw; have a0 := (hSw.cell (p := ⟨C.a0, 0, none⟩) l0).trans r0; have a1 := (hSw.cell (p := ⟨C.a0, 1, none⟩) l0).trans r1; have a2 := (hSw.cell (p := ⟨C.a0, 2, none⟩) l0).trans r2; have a3 := (hSw.cell (p := ⟨C.a1, 0, none⟩) l1).trans s0; have a4 := (hSw.cell (p := ⟨C.a1, 1, none⟩) l1).trans s1; have a5 := (hSw.cell (p := ⟨C.a1, 2, none⟩) l1).trans s2; have a6 := (hSw.cell (p := ⟨C.a4, 0, none⟩) l4).trans c4; have a7 := (hSw.cell (p := ⟨C.a5, 0, none⟩) l5).trans c5; have a8 := (hSw.cell (p := ⟨ab, ao + p, none⟩) hab).trans cp; have a9 := (hSw.cell (p := ⟨ob, oo + p, none⟩) hob).trans cx; go_simp; (try with_reducible rfl))); (try simp only [Act.put, List.setIfInBounds_toArray, List.set_cons_zero, List.set_cons_succ])) | (apply ord_skip rfl (by rfl) (by rfl) (fun _ => hBe); (try simp only [Act.put, List.setIfInBounds_toArray, List.set_cons_zero, List.set_cons_succ])))
            refine ord_do rfl (by rfl) (by rfl) (fun K hK => ?_)
            go_simp
            refine (hVa.out _ hBe).mono ?_
            rintro e wd' ⟨rfl, hwd⟩
            replace hBe := hBe.trans (hwd.mono hBe.size)
            clear hwd
            refine hK.out _ _ (fun _ => hBe) ?_
            (try simp only [Act.put, List.setIfInBounds_toArray, List.set_cons_zero, List.set_cons_succ])
            clear hK K
            repeat (first | (apply ord_tk rfl (by rfl) (by rfl) (by rfl); (focus (intro wx hSw; have a0 := (hSw.cell (p := ⟨C.a0, 0, none⟩) l0).trans r0; have a1 := (hSw.cell (p := ⟨C.a0, 1, none⟩) l0).trans r1; have a2 := (hSw.cell (p := ⟨C.a0, 2, none⟩) l0).trans r2; have a3 := (hSw.cell (p := ⟨C.a1, 0, none⟩) l1).trans s0; have a4 := (hSw.cell (p := ⟨C.a1, 1, none⟩) l1).trans s1; have a5 := (hSw.cell (p := ⟨C.a1, 2, none⟩) l1).trans s2; have a6 := (hSw.cell (p := ⟨C.a4, 0, none⟩) l4).trans c4; have a7 := (hSw.cell (p := ⟨C.a5, 0, none⟩) l5).trans c5; have a8 := (hSw.cell (p := ⟨ab, ao + p, none⟩) hab).trans cp; have a9 := (hSw.cell (p := ⟨ob, oo + p, none⟩) hob).trans cx; go_simp; (try with_reducible rfl))); (try simp only [Act.put, List.setIfInBounds_toArray, List.set_cons_zero, List.set_cons_succ])) | (apply ord_skip rfl (by rfl) (by rfl) (fun _ => hBe); (try simp only [Act.put, List.setIfInBounds_toArray, List.set_cons_zero, List.set_cons_succ])))
            refine ord_do rfl (by rfl) (by rfl) (fun K hK => ?_)
            go_simp
            refine (hVb.out _ hBe).mono ?_
            rintro e wd' ⟨rfl, hwd⟩
            replace hBe := hBe.trans (hwd.mono hBe.size)
            clear hwd
            refine hK.out _ _ (fun _ => hBe) ?_
            (try simp only [Act.put, List.setIfInBounds_toArray, List.set_cons_zero, List.set_cons_succ])
            clear hK K
            repeat (first | (apply ord_tk rfl (by rfl) (by rfl) (by rfl); (focus (intro wx hSw; have a0 := (hSw.cell (p := ⟨C.a0, 0, none⟩) l0).trans r0; have a1 := (hSw.cell (p := ⟨C.a0, 1, none⟩) l0).trans r1; have a2 := (hSw.cell (p := ⟨C.a0, 2, none⟩) l0).trans r2; have a3 := (hSw.cell (p := ⟨C.a1, 0, none⟩) l1).trans s0; have a4 := (hSw.cell (p := ⟨C.a1, 1, none⟩) l1).trans s1; have a5 := (hSw.cell (p := ⟨C.a1, 2, none⟩) l1).trans s2; have a6 := (hSw.cell (p := ⟨C.a4, 0, none⟩) l4).trans c4; have a7 := (hSw.cell (p := ⟨C.a5, 0, none⟩) l5).trans c5; have a8 := (hSw.cell (p := ⟨ab, ao + p, none⟩) hab).trans cp; have a9 := (hSw.cell (p := ⟨ob, oo + p, none⟩) hob).trans cx; go_simp; (try with_reducible rfl))); (try simp only [Act.put, List.setIfInBounds_toArray, List.set_cons_zero, List.set_cons_succ])) | (apply ord_skip rfl (by rfl) (by rfl) (fun _ => hBe); (try simp only [Act.put, List.setIfInBounds_toArray, List.set_cons_zero, List.set_cons_succ])))
            refine ord_nil ?_
            have hBf := hBe
            clear hBe
            have hPn := HPj.out.1 rfl
            have hE5 := hE.below ok hBf
            have hA5 := hacc _ _ _ hA (Wr.of_below hBf)
            have hSt5 : C.stop = true → C.T.part r pre (j + 1) = [] := fun h => by rw [hPn]; exact HSt.out h
            rw [← hPn] at hA5
            have HSt5 := hide hSt5
            clear hPn hSt5 hE hA
            go_wp2_with fail
            go_roundw
            case rel => exact ⟨j + 1, _, by omega, by go_num, hE5, hA5, HSt5.out⟩
            case measure => simp [intOf] <;> omega
          | true =>
            have hb2 : (va != vb) = false := by simp [bne, hc2]
            rw [hc2] at HPj
            have hPy := HPj.out.2 rfl
            clear HPj
            refine wp_region_be [0, 1, 2, 3, 4, 5, 6, 7, 8, 9, 10, 11, 12, 13, 14, 15, 17, 18, 19, 16, 20, 21, 22] 23 wr.heap.size wr (by kernel_rfl) (by kernel_rfl) (by kernel_rfl) (fun _ _ _ _ _ h => h) (Below.refl _ _) (fun wd hBe => ?_)
            repeat (first | (apply ord_tk rfl (by rfl) (by rfl) (by rfl); (focus (intro wx hSw; have a0 := (hSw.cell (p := ⟨C.a0, 0, none⟩) l0).trans r0; have a1 := (hSw.cell (p := ⟨C.a0, 1, none⟩) l0).trans r1; have a2 := (hSw.cell (p := ⟨C.a0, 2, none⟩) l0).trans r2; have a3 := (hSw.cell (p := ⟨C.a1, 0, none⟩) l1).trans s0; have a4 := (hSw.cell (p := ⟨C.a1, 1, none⟩) l1).trans s1; have a5 := (hSw.cell (p := ⟨C.a1, 2, none⟩) l1).trans s2; have a6 := (hSw.cell (p := ⟨C.a4, 0, none⟩) l4).trans c4; have a7 := (hSw.cell (p := ⟨C.a5, 0, none⟩) l5).trans c5; have a8 := (hSw.cell (p := ⟨ab, ao + p, none⟩) hab).trans cp; have a9 := (hSw.cell (p := ⟨ob, oo + p, none⟩) hob).trans cx; go_simp; (try with_reducible rfl))); (try simp only [Act.put, List.setIfInBounds_toArray, List.set_cons_zero, List.set_cons_succ])) | (apply ord_skip rfl (by rfl) (by rfl) (fun _ => hBe); (try simp only [Act.put, List.setIfInBounds_toArray, List.set_cons_zero, List.set_cons_succ])))
            refine ord_do rfl (by rfl) (by rfl) (fun K hK => ?_)
            go_simp
            refine (hOrd.out _ hBe).mono ?_
            rintro e wd' ⟨rfl, hwd⟩
            replace hBe := hBe.trans (hwd.mono hBe.size)
            clear hwd
            refine hK.out _ _ (fun _ => hBe) ?_
            (try simp only [Act.put, List.setIfInBounds_toArray, List.set_cons_zero, List.set_cons_succ])
            clear hK K
            repeat (first | (apply ord_tk rfl (by rfl) (by rfl) (by rfl); (focus (intro wx hSw; have a0 := (hSw.cell (p := ⟨C.a0, 0, none⟩) l0).trans r0; have a1 := (hSw.cell (p := ⟨C.a0, 1, none⟩) l0).trans r1; have a2 := (hSw.cell (p := ⟨C.a0, 2, none⟩) l0).trans r2; have a3 := (hSw.cell (p := ⟨C.a1, 0, none⟩) l1).trans s0; have a4 := (hSw.cell (p := ⟨C.a1, 1, none⟩) l1).trans s1; have a5 := (hSw.cell (p := ⟨C.a1, 2, none⟩) l1).trans s2; have a6 := (hSw.cell (p := ⟨C.a4, 0, none⟩) l4).trans c4; have a7 := (hSw.cell (p := ⟨C.a5, 0, none⟩) l5).trans c5; have a8 := (hSw.cell (p := ⟨ab, ao + p, none⟩) hab).trans cp; have a9 := (hSw.cell (p := ⟨ob, oo + p, none⟩) hob).trans cx; go_simp; (try with_reducible rfl))); (try simp only [Act.put, List.setIfInBounds_toArray, List.set_cons_zero, List.set_cons_succ])) | (apply ord_skip rfl (by rfl) (by rfl) (fun _ => hBe); (try simp only [Act.put, List.setIfInBounds_toArray, List.set_cons_zero, List.set_cons_succ])))
            refine ord_do rfl (by rfl) (by rfl) (fun K hK => ?_)
            go_simp
            refine (hVa.out _ hBe).mono ?_
            rintro e wd' ⟨rfl, hwd⟩
            replace hBe := hBe.trans (hwd.mono hBe.size)
            clear hwd
            refine hK.out _ _ (fun _ => hBe) ?_
            (try simp only [Act.put, List.setIfInBounds_toArray, List.set_cons_zero, List.set_cons_succ])
            clear hK K
            repeat (first | (apply ord_tk rfl (by rfl) (by rfl) (by rfl); (focus (intro wx hSw; have a0 := (hSw.cell (p := ⟨C.a0, 0, none⟩) l0).trans r0; have a1 := (hSw.cell (p := ⟨C.a0, 1, none⟩) l0).trans r1; have a2 := (hSw.cell (p := ⟨C.a0, 2, none⟩) l0).trans r2; have a3 := (hSw.cell (p := ⟨C.a1, 0, none⟩) l1).trans s0; have a4 := (hSw.cell (p := ⟨C.a1, 1, none⟩) l1).trans s1; have a5 := (hSw.cell (p := ⟨C.a1, 2, none⟩) l1).trans s2; have a6 := (hSw.cell (p := ⟨C.a4, 0, none⟩) l4).trans c4; have a7 := (hSw.cell (p := ⟨C.a5, 0, none⟩) l5).trans c5; have a8 := (hSw.cell (p := ⟨ab, ao + p, none⟩) hab).trans cp; have a9 := (hSw.cell (p := ⟨ob, oo + p, none⟩) hob).trans cx; go_simp; (try with_reducible rfl))); (try simp only [Act.put, List.setIfInBounds_toArray, List.set_cons_zero, List.set_cons_succ])) | (apply ord_skip rfl (by rfl) (by rfl) (fun _ => hBe); (try simp only [Act.put, List.setIfInBounds_toArray, List.set_cons_zero, List.set_cons_succ])))
            refine ord_do rfl (by rfl) (by rfl) (fun K hK => ?_)
            go_simp
            refine (hVb.out _ hBe).mono ?_
            rintro e wd' ⟨rfl, hwd⟩
            replace hBe := hBe.trans (hwd.mono hBe.size)
            clear hwd
            refine hK.out _ _ (fun _ => hBe) ?_
            (try simp only [Act.put, List.setIfInBounds_toArray, List.set_cons_zero, List.set_cons_succ])
            clear hK K
            repeat (first | (apply ord_tk rfl (by rfl) (by rfl) (by rfl); (focus (intro wx hSw; have a0 := (hSw.cell (p := ⟨C.a0, 0, none⟩) l0).trans r0; have a1 := (hSw.cell (p := ⟨C.a0, 1, none⟩) l0).trans r1; have a2 := (hSw.cell (p := ⟨C.a0, 2, none⟩) l0).trans r2; have a3 := (hSw.cell (p := ⟨C.a1, 0, none⟩) l1).trans s0; have a4 := (hSw.cell (p := ⟨C.a1, 1, none⟩) l1).trans s1; have a5 := (hSw.cell (p := ⟨C.a1, 2, none⟩) l1).trans s2; have a6 := (hSw.cell (p := ⟨C.a4, 0, none⟩) l4).trans c4; have a7 := (hSw.cell (p := ⟨C.a5, 0, none⟩) l5).trans c5; have a8 := (hSw.cell (p := ⟨ab, ao + p, none⟩) hab).trans cp; have a9 := (hSw.cell (p := ⟨ob, oo + p, none⟩) hob).trans cx; go_simp; (try with_reducible rfl))); (try simp only [Act.put, List.setIfInBounds_toArray, List.set_cons_zero, List.set_cons_succ])) | (apply ord_skip rfl (by rfl) (by rfl) (fun _ => hBe); (try simp only [Act.put, List.setIfInBounds_toArray, List.set_cons_zero, List.set_cons_succ])))
            refine ord_nil ?_
            obtain ⟨w5, hw5⟩ : ∃ w5, w5 = wd' := ⟨_, rfl⟩
            subst hw5
            have hE5 := hE.below ok hBe
            have hA5 := hacc _ _ _ hA (Wr.of_below hBe)
            have hs5 := hE5.sz
            have HPy := hide hPy
            clear hBe hE hA hPy cp cx r0 r1 r2 s0 s1 s2 c4 c5 hab hob l0 l1 l4 l5 hOrd hVa hVb
            have c3 := hE5.b3.cell 0
            go_wp2_with (at_builtin; refine list_push _ rfl _ _ rfl C.w.heap.size _ _ rfl (hE5.im.alloc _) (j : Int) w5.heap.size _ rfl (Blk.new _ _ _) (by rw [HP.out]; omega) (by simp; omega) (by simp) ?_; intro g cap w8 hP; have hE8 := hE5.push ok hP; have hA8 := hacc _ _ _ hA5 (hE5.pushWr ok hP (.slice (some ⟨g, 0, none⟩) (pre.length + 1) cap)); obtain ⟨W9, hW9⟩ : ∃ W9, w8.setCell ⟨C.a3, 0, none⟩ (.slice (some ⟨g, 0, none⟩) (pre.length + 1) cap) = W9 := ⟨_, rfl⟩; have b38 := hP.blk (hE5.im.alloc _) (hE5.b3.alloc _) (by decide); have c38 := b38.cell 0; have f38 := b38.frozen 0; rw [hW9] at hE8 hA8; have c7 := hE8.b7.cell 0)
            clear hW9 c3 c7 c38 f38 b38 hE5 hA5
            have hpi2 : ∀ y ∈ pre ++ [(j : Int)], 0 ≤ y ∧ y < C.T.us.length := fun y hy => by
              rcases List.mem_append.1 hy with hy | hy
              · exact hi y hy
              · rw [List.mem_singleton.1 hy]; omega
            refine (ih (pre ++ [(j : Int)]) _ W9 _ hE8 hA8 (by rw [List.length_append, List.length_singleton, HP.out]; omega) hpi2).mono ?_
            rintro e w10 hX
            rcases hX with ⟨rfl, ⟨v10, hE10⟩, hA10, hs10⟩ | ⟨hst, x', l', hxl, rfl, hF, hfr⟩
            · clear hE8 hA8 hP
              rcases hE10.im.form with ⟨_, h⟩ | ⟨g', cap', rfl, hg1, hg2, hg3⟩
              · simp at h
              · have hlen : (pre ++ [(j : Int)]).length = pre.length + 1 := by simp
                rw [hlen] at hE10 hg3
                have hE11 := hE10.cut ok
                have hA11 := hacc _ _ _ hA10 (wr_set3 ok (.slice (some ⟨g', 0, none⟩) pre.length cap'))
                obtain ⟨W11, hW11⟩ : ∃ W11, w10.setCell ⟨C.a3, 0, none⟩ (.slice (some ⟨g', 0, none⟩) pre.length cap') = W11 := ⟨_, rfl⟩
                rw [hW11] at hE11 hA11
                rw [List.append_assoc, ← HPy.out] at hA11
                have HSn := hide (show C.stop = true → C.T.part r pre (j + 1) = [] from fun h => by rw [HPy.out, HSt.out h, hs10 h]; rfl)
                have c3 := hE10.b3.cell 0
                have f3 := hE10.b3.frozen 0
                rw [HP.out] at c3 hg3 hW11 hE11
                have hpc : p ≤ cap' := by omega
                clear hE10 hA10 hs10 hlen
                go_wp2_with fail
                clear c3 f3 hW11
                go_roundw
                case rel => exact ⟨j + 1, _, by omega, by go_num, hE11, hA11, HSn.out⟩
                case measure => simp [intOf] <;> omega
            · have HPo := hide (show ExP C Acc Fin (r + 1) pre acc (.returned (.bool true)) w10 from by
                obtain ⟨t, ht⟩ := C.T.part_pre r pre (j + 1) (C.N - (j + 1))
                rw [show j + 1 + (C.N - (j + 1)) = C.N by omega, HPy.out, HSt.out hst, hxl, List.nil_append] at ht
                exact .inr ⟨hst, x', l' ++ t, by rw [C.T.isos_part]; unfold Two.N; rw [hN, ht]; rfl, rfl, hF, hfr⟩)
              clear hE8 hA8 hP hF hfr
              go_wp2_with fail
              go_ret
              exact HPo.out
      · obtain rfl : j = C.N := by omega
        have HR := hide (show C.T.isos (r + 1) pre = C.T.part r pre C.N by rw [C.T.isos_part]; unfold Two.N; rw [hN])
        have hPo : ExP C Acc Fin (r + 1) pre acc (.returned (.bool false)) wr := .inl ⟨rfl, ⟨_, hE⟩, by rw [HR.out]; exact hA, fun h => by rw [HR.out]; exact HSt.out h⟩
        have HPo := hide hPo
        clear hPo hE hA
        go_wp2_with fail
        go_ret
        exact HPo.out
end Go.Proofs.YtonehmjoolflfaaGreatDoor
