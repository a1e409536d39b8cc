
/- The walk of the closure isIsometry of eachIsometry. -/
import Derived.Test.YtkekgipeagchcaaIM4
namespace Go.Proofs.Ytkekgipeagchcaa
open Go Go.RowKit Grp
set_option linter.unusedSimpArgs false
set_option linter.unusedVariables false
set_option maxRecDepth 100000
theorem Sl.headI {w : World} {B : Nat} {A : Option Addr} {n c : Nat} {xs : List Int} (h : Sl w B A n c xs) (t : Nat) (ht : t ≤ n) : Sl w B A t c (xs.take t) := by
  refine ⟨by rw [List.length_take, h.len]; omega, by have := h.cap; omega, fun x hx => h.rng x (List.mem_of_mem_take hx), fun hp => ?_, h.nil_⟩
  obtain ⟨b, off, e, hb, hc⟩ := h.at_ (by omega)
  refine ⟨b, off, e, hb, fun k hk => ?_⟩
  have e2 : gi (xs.take t) k = gi xs k := by unfold gi; rw [List.getD_eq_getElem?_getD, List.getD_eq_getElem?_getD, List.getElem?_take, if_pos hk]
  rw [e2]
  exact hc k (by omega)
set_option maxHeartbeats 4000000 in
theorem isIso_any (w : World) (T : Two) (hT : TwoOk T) (A : Option Addr) (n c : Nat) (B : Option Addr) (m k : Nat) (A2 : Option Addr) (n2 c2 : Nat) (B2 : Option Addr) (m2 k2 : Nat) (A3 : Option Addr) (n3 c3 : Nat) (pre : List Int) (Xm Xn Xi Xv : Nat)
    (h : Sl w w.heap.size A n c T.os) (h' : Sl w w.heap.size B m k T.vs) (g : Sl w w.heap.size A2 n2 c2 T.ps) (g' : Sl w w.heap.size B2 m2 k2 T.us) (h3 : Sl w w.heap.size A3 n3 c3 pre) (hl : pre.length = T.os.length) (hi : ∀ y ∈ pre, 0 ≤ y ∧ y < T.us.length)
    (bm : Blk w Xm 28 #[.slice A n c, .int .i64 T.D, .slice B m k]) (bn : Blk w Xn 28 #[.slice A2 n2 c2, .int .i64 T.E, .slice B2 m2 k2]) (bi : Blk w Xi 22 #[.slice A3 n3 c3]) (bv : Blk w Xv 67 #[.func (.func 55) #[] #[]]) :
    Calls Try.prog 56 #[.pointer (some ⟨Xm, 0, none⟩), .pointer (some ⟨Xn, 0, none⟩), .pointer (some ⟨Xi, 0, none⟩), .pointer (some ⟨Xv, 0, none⟩)] w (Re w (.bool (T.iso pre))) := by
  have h16 := hT.n16
  have hD1 := hT.M.ok.d1
  have hD2 := hT.M.ok.d2
  have hE1 := hT.N.ok.d1
  have hE2 := hT.N.ok.d2
  have hIso := hide (show T.iso pre = T.goes pre T.us.length from rfl)
  obtain ⟨b, hb⟩ : ∃ b, T.iso pre = b := ⟨_, rfl⟩
  rw [hb] at hIso ⊢
  obtain rfl := g'.len
  obtain rfl : T.us.length = m := by rw [← hT.len]; exact h'.len
  have hIB := imagesBy_any w A n c T.os A2 n2 c2 T.ps T.E B2 T.us.length k2 A3 n3 c3 pre h g h3 hT.M.ok.g hT.N.ok.g hl (fun y hy => by have := hi y hy; omega)
  rw [show (prodL T.os).toNat = T.us.length by rw [hT.nos]; rfl, show ((List.range T.us.length).map fun (x : Nat) => imF T.os T.ps pre x) = T.ims pre T.us.length from rfl] at hIB
  have HIB := hide hIB
  obtain ⟨N, hN⟩ : ∃ N, T.us.length = N := ⟨_, rfl⟩
  have HN := hide hN
  rw [hN] at bm bn h16 h' g' hi hIso HIB
  have hlm := bm.lt
  have hln := bn.lt
  have hlv := bv.lt
  have r0 := bm.cell 0
  have r1 := bm.cell 1
  have r2 := bm.cell 2
  have s0 := bn.cell 0
  have s1 := bn.cell 1
  have s2 := bn.cell 2
  have x0 := bi.cell 0
  clear hb hIB hN
  go_enter Try.func56, Try.ntmps56
  go_wp2_with fail
  refine HIB.out.mono ?_
  rintro e w1 ⟨v, rfl, hO, hb1⟩
  have hir : ∀ y ∈ T.ims pre N, i64ok y := fun y hy => by
    obtain ⟨x, _, rfl⟩ := List.mem_map.1 hy
    have := hT.im_rng pre x
    rw [HN.out] at this
    exact ⟨by omega, by omega⟩
  obtain ⟨Aa, ca, rfl, hS⟩ := hO.sl hir
  rw [T.ims_len] at hS ⊢
  have bm1 := bm.all hb1
  have bn1 := bn.all hb1
  have bv1 := bv.all hb1
  have hs1 := hb1.size
  have hlm1 := bm1.lt
  have hln1 := bn1.lt
  have hlv1 := bv1.lt
  have r0 := bm1.cell 0
  have r1 := bm1.cell 1
  have r2 := bm1.cell 2
  have s0 := bn1.cell 0
  have s1 := bn1.cell 1
  have s2 := bn1.cell 2
  have v0 := bv1.cell 0
  have hg0 := hide (show T.goes pre 0 = true from rfl)
  have h'1 := (h'.below hb1).more hs1
  have g'1 := (g'.below hb1).more hs1
  clear hO HIB bm bn bv bi x0
  go_wp2_with fail
  go_loopw [15] (fun i wr => ∃ q : Nat, q ≤ N ∧ i = .int .i64 q ∧ Hid (T.goes pre q = true) ∧ Below w1.heap.size w1 wr) (fun i _ => N - (intOf i).toNat)
  case atStart => exact ⟨0, by omega, rfl, hg0, Below.refl _ _⟩
  case round =>
    clear hg0
    obtain ⟨q, hq, rfl, hgo, hBe⟩ := hrel
    have hsz := hBe.size
    by_cases hlt : q < N
    · obtain ⟨ab, ao, rfl, hab, hac⟩ := hS.at_ (by omega)
      have c1 := (hBe.cell (p := ⟨ab, ao + q, none⟩) hab).trans (hac q hlt)
      rw [T.ims_at hlt] at c1
      have hr := hT.im_rng pre q
      rw [HN.out] at hr
      have HG := hide (T.goes_succ pre q)
      have hno := hide (fun hh => T.goes_no (pre := pre) (j := q) (k := N) hlt hh)
      have hTk := hide (T.ims_take (pre := pre) (show q ≤ N by omega))
      obtain ⟨y, hy⟩ : ∃ y : Nat, T.im pre q = y := ⟨(T.im pre q).toNat, by omega⟩
      have HY := hide hy
      have hyN : y < N := by omega
      have hq0 : gi T.vs q < T.D ∧ 0 ≤ gi T.vs q := by have := hT.M.ok.rng _ (gi_mem (show q < T.vs.length by rw [hT.len, HN.out]; exact hlt)); omega
      have hq1 : gi T.us y < T.E ∧ 0 ≤ gi T.us y := by have := hT.N.ok.rng _ (gi_mem (show y < T.us.length by rw [HN.out]; exact hyN)); omega
      have hVa := hide (fun (W : World) (hW : Below w1.heap.size w1 W) => valF_any W T.D B N k T.vs q ((h'1.below hW).more hW.size) ⟨hD1, hD2⟩ (fun v hv => hT.M.ok.rng v hv) (by rw [hT.len, HN.out]; exact hlt) A n c)
      have hVb := hide (fun (W : World) (hW : Below w1.heap.size w1 W) => valF_any W T.E B2 N k2 T.us y ((g'1.below hW).more hW.size) ⟨hE1, hE2⟩ (fun v hv => hT.N.ok.rng v hv) (by rw [HN.out]; exact hyN) A2 n2 c2)
      have hAl := hide (al_prog (a := gi T.vs q) (b := gi T.us y) (show (0 : Int) < 55440 by omega) (ord_div hT.M.ord hD1) (ord_div hT.N.ord hE1))
      obtain ⟨va, hva⟩ : ∃ v, gi T.vs q * (55440 / T.D) = v := ⟨_, rfl⟩
      obtain ⟨vb, hvb⟩ : ∃ v, gi T.us y * (55440 / T.E) = v := ⟨_, rfl⟩
      rw [hva] at hVa hAl
      rw [hvb] at hVb hAl
      have hale : T.al q (T.im pre q) = (va == vb) := by rw [hAl.out, hy]; rfl
      rw [hgo.out, Bool.true_and, hale, hy] at HG
      rw [hale, hy] at hno
      rw [hy] at c1
      clear hva hvb hale hy hAl hac
      have hqc : q ≤ ca := by have := hS.cap; omega
      have hH := hide (hS.headI q (by omega))
      rw [hTk.out] at hH
      go_wp2_with fail
      clear c1
      cases hab2 : (va == vb) with
      | false =>
        have hbn : (va != vb) = true := by simp [bne, hab2]
        rw [hab2] at HG hno
        have hF := hide (hno.out (by simp))
        refine wp_region_be [0, 1, 2, 4, 5, 6, 3, 7, 8, 9, 10, 11, 12, 13, 14, 15] 16 w1.heap.size w1 (by kernel_rfl) (by kernel_rfl) (by kernel_rfl) (fun _ _ _ _ _ h => h) hBe (fun wd hBe => ?_)
        repeat (first | (apply ord_tk rfl (by rfl) (by rfl) (by rfl); (focus (intro wx hSw; have a0 := (hSw.cell (p := ⟨Xm, 0, none⟩) hlm1).trans r0; have a1 := (hSw.cell (p := ⟨Xm, 1, none⟩) hlm1).trans r1; have a2 := (hSw.cell (p := ⟨Xm, 2, none⟩) hlm1).trans r2; have a3 := (hSw.cell (p := ⟨Xn, 0, none⟩) hln1).trans s0; have a4 := (hSw.cell (p := ⟨Xn, 1, none⟩) hln1).trans s1; have a5 := (hSw.cell (p := ⟨Xn, 2, none⟩) hln1).trans s2; have a6 := (hSw.cell (p := ⟨Xv, 0, none⟩) hlv1).trans v0; go_simp; (try with_reducible rfl))); (try simp only [Act.put, List.setIfInBounds_toArray, List.set_cons_zero, List.set_cons_succ])) | (apply ord_skip rfl (by rfl) (by rfl) (fun _ => hBe); (try simp only [Act.put, List.setIfInBounds_toArray, List.set_cons_zero, List.set_cons_succ])))
        refine ord_do rfl (by rfl) (by rfl) (fun K hK => ?_)
        go_simp
        refine (hVa.out _ hBe).mono ?_
        rintro e wd' ⟨rfl, hwd⟩
        replace hBe := hBe.trans (hwd.mono hBe.size)
        clear hwd
        refine hK.out _ _ (fun _ => hBe) ?_
        (try simp only [Act.put, List.setIfInBounds_toArray, List.set_cons_zero, List.set_cons_succ])
        clear hK K
        repeat (first | (apply ord_tk rfl (by rfl) (by rfl) (by rfl); (focus (intro wx hSw; have a0 := (hSw.cell (p := ⟨Xm, 0, none⟩) hlm1).trans r0; have a1 := (hSw.cell (p := ⟨Xm, 1, none⟩) hlm1).trans r1; have a2 := (hSw.cell (p := ⟨Xm, 2, none⟩) hlm1).trans r2; have a3 := (hSw.cell (p := ⟨Xn, 0, none⟩) hln1).trans s0; have a4 := (hSw.cell (p := ⟨Xn, 1, none⟩) hln1).trans s1; have a5 := (hSw.cell (p := ⟨Xn, 2, none⟩) hln1).trans s2; have a6 := (hSw.cell (p := ⟨Xv, 0, none⟩) hlv1).trans v0; go_simp; (try with_reducible rfl))); (try simp only [Act.put, List.setIfInBounds_toArray, List.set_cons_zero, List.set_cons_succ])) | (apply ord_skip rfl (by rfl) (by rfl) (fun _ => hBe); (try simp only [Act.put, List.setIfInBounds_toArray, List.set_cons_zero, List.set_cons_succ])))
        refine ord_do rfl (by rfl) (by rfl) (fun K hK => ?_)
        go_simp
        refine (hVb.out _ hBe).mono ?_
        rintro e wd' ⟨rfl, hwd⟩
        replace hBe := hBe.trans (hwd.mono hBe.size)
        clear hwd
        refine hK.out _ _ (fun _ => hBe) ?_
        (try simp only [Act.put, List.setIfInBounds_toArray, List.set_cons_zero, List.set_cons_succ])
        clear hK K
        repeat (first | (apply ord_tk rfl (by rfl) (by rfl) (by rfl); (focus (intro wx hSw; have a0 := (hSw.cell (p := ⟨Xm, 0, none⟩) hlm1).trans r0; have a1 := (hSw.cell (p := ⟨Xm, 1, none⟩) hlm1).trans r1; have a2 := (hSw.cell (p := ⟨Xm, 2, none⟩) hlm1).trans r2; have a3 := (hSw.cell (p := ⟨Xn, 0, none⟩) hln1).trans s0; have a4 := (hSw.cell (p := ⟨Xn, 1, none⟩) hln1).trans s1; have a5 := (hSw.cell (p := ⟨Xn, 2, none⟩) hln1).trans s2; have a6 := (hSw.cell (p := ⟨Xv, 0, none⟩) hlv1).trans v0; go_simp; (try with_reducible rfl))); (try simp only [Act.put, List.setIfInBounds_toArray, List.set_cons_zero, List.set_cons_succ])) | (apply ord_skip rfl (by rfl) (by rfl) (fun _ => hBe); (try simp only [Act.put, List.setIfInBounds_toArray, List.set_cons_zero, List.set_cons_succ])))
        refine ord_nil ?_
        go_wp2_with fail
        go_ret
        exact ⟨by rw [hIso.out, hF.out]; rfl, hb1.trans (hBe.mono hs1)⟩
      | true =>
        have hbn : (va != vb) = false := by simp [bne, hab2]
        rw [hab2, Bool.true_and] at HG
        rw [hab2, Bool.true_and] at hno
        refine wp_region_be [0, 1, 2, 4, 5, 6, 3, 7, 8, 9, 10, 11, 12, 13, 14, 15] 16 w1.heap.size w1 (by kernel_rfl) (by kernel_rfl) (by kernel_rfl) (fun _ _ _ _ _ h => h) hBe (fun wd hBe => ?_)
        repeat (first | (apply ord_tk rfl (by rfl) (by rfl) (by rfl); (focus (intro wx hSw; have a0 := (hSw.cell (p := ⟨Xm, 0, none⟩) hlm1).trans r0; have a1 := (hSw.cell (p := ⟨Xm, 1, none⟩) hlm1).trans r1; have a2 := (hSw.cell (p := ⟨Xm, 2, none⟩) hlm1).trans r2; have a3 := (hSw.cell (p := ⟨Xn, 0, none⟩) hln1).trans s0; have a4 := (hSw.cell (p := ⟨Xn, 1, none⟩) hln1).trans s1; have a5 := (hSw.cell (p := ⟨Xn, 2, none⟩) hln1).trans s2; have a6 := (hSw.cell (p := ⟨Xv, 0, none⟩) hlv1).trans v0; go_simp; (try with_reducible rfl))); (try simp only [Act.put, List.setIfInBounds_toArray, List.set_cons_zero, List.set_cons_succ])) | (apply ord_skip rfl (by rfl) (by rfl) (fun _ => hBe); (try simp only [Act.put, List.setIfInBounds_toArray, List.set_cons_zero, List.set_cons_succ])))
        refine ord_do rfl (by rfl) (by rfl) (fun K hK => ?_)
        go_simp
        refine (hVa.out _ hBe).mono ?_
        rintro e wd' ⟨rfl, hwd⟩
        replace hBe := hBe.trans (hwd.mono hBe.size)
        clear hwd
        refine hK.out _ _ (fun _ => hBe) ?_
        (try simp only [Act.put, List.setIfInBounds_toArray, List.set_cons_zero, List.set_cons_succ])
        clear hK K
        repeat (first | (apply ord_tk rfl (by rfl) (by rfl) (by rfl); (focus (intro wx hSw; have a0 := (hSw.cell (p := ⟨Xm, 0, none⟩) hlm1).trans r0; have a1 := (hSw.cell (p := ⟨Xm, 1, none⟩) hlm1).trans r1; have a2 := (hSw.cell (p := ⟨Xm, 2, none⟩) hlm1).trans r2; have a3 := (hSw.cell (p := ⟨Xn, 0, none⟩) hln1).trans s0; have a4 := (hSw.cell (p := ⟨Xn, 1, none⟩) hln1).trans s1; have a5 := (hSw.cell (p := ⟨Xn, 2, none⟩) hln1).trans s2; have a6 := (hSw.cell (p := ⟨Xv, 0, none⟩) hlv1).trans v0; go_simp; (try with_reducible rfl))); (try simp only [Act.put, List.setIfInBounds_toArray, List.set_cons_zero, List.set_cons_succ])) | (apply ord_skip rfl (by rfl) (by rfl) (fun _ => hBe); (try simp only [Act.put, List.setIfInBounds_toArray, List.set_cons_zero, List.set_cons_succ])))
        refine ord_do rfl (by rfl) (by rfl) (fun K hK => ?_)
        go_simp
        refine (hVb.out _ hBe).mono ?_
        rintro e wd' ⟨rfl, hwd⟩
        replace hBe := hBe.trans (hwd.mono hBe.size)
        clear hwd
        refine hK.out _ _ (fun _ => hBe) ?_
        (try simp only [Act.put, List.setIfInBounds_toArray, List.set_cons_zero, List.set_cons_succ])
        clear hK K
        repeat (first | (apply ord_tk rfl (by rfl) (by rfl) (by rfl); (focus (intro wx hSw; have a0 := (hSw.cell (p := ⟨Xm, 0, none⟩) hlm1).trans r0; have a1 := (hSw.cell (p := ⟨Xm, 1, none⟩) hlm1).trans r1; have a2 := (hSw.cell (p := ⟨Xm, 2, none⟩) hlm1).trans r2; have a3 := (hSw.cell (p := ⟨Xn, 0, none⟩) hln1).trans s0; have a4 := (hSw.cell (p := ⟨Xn, 1, none⟩) hln1).trans s1; have a5 := (hSw.cell (p := ⟨Xn, 2, none⟩) hln1).trans s2; have a6 := (hSw.cell (p := ⟨Xv, 0, none⟩) hlv1).trans v0; go_simp; (try with_reducible rfl))); (try simp only [Act.put, List.setIfInBounds_toArray, List.set_cons_zero, List.set_cons_succ])) | (apply ord_skip rfl (by rfl) (by rfl) (fun _ => hBe); (try simp only [Act.put, List.setIfInBounds_toArray, List.set_cons_zero, List.set_cons_succ])))
        refine ord_do rfl (by rfl) (by rfl) (fun K hK => ?_)
        go_simp
        refine ((sContains_any _ w1.heap.size _ q ca (T.ims pre q) y (hH.out.below hBe) (by omega)).mono fun _ _ h => Qt.re h).mono ?_
        rintro e wd' ⟨rfl, hwd⟩
        replace hBe := hBe.trans (hwd.mono hBe.size)
        clear hwd
        refine hK.out _ _ (fun _ => hBe) ?_
        (try simp only [Act.put, List.setIfInBounds_toArray, List.set_cons_zero, List.set_cons_succ])
        clear hK K
        repeat (first | (apply ord_tk rfl (by rfl) (by rfl) (by rfl); (focus (intro wx hSw; have a0 := (hSw.cell (p := ⟨Xm, 0, none⟩) hlm1).trans r0; have a1 := (hSw.cell (p := ⟨Xm, 1, none⟩) hlm1).trans r1; have a2 := (hSw.cell (p := ⟨Xm, 2, none⟩) hlm1).trans r2; have a3 := (hSw.cell (p := ⟨Xn, 0, none⟩) hln1).trans s0; have a4 := (hSw.cell (p := ⟨Xn, 1, none⟩) hln1).trans s1; have a5 := (hSw.cell (p := ⟨Xn, 2, none⟩) hln1).trans s2; have a6 := (hSw.cell (p := ⟨Xv, 0, none⟩) hlv1).trans v0; go_simp; (try with_reducible rfl))); (try simp only [Act.put, List.setIfInBounds_toArray, List.set_cons_zero, List.set_cons_succ])) | (apply ord_skip rfl (by rfl) (by rfl) (fun _ => hBe); (try simp only [Act.put, List.setIfInBounds_toArray, List.set_cons_zero, List.set_cons_succ])))
        refine ord_nil ?_
        have hBf := hBe
        clear hBe
        cases hmt : hasB (T.ims pre q) y with
        | true =>
          rw [hmt] at hno
          have hF := hide (hno.out rfl)
          go_wp2_with fail
          go_ret
          exact ⟨by rw [hIso.out, hF.out]; rfl, hb1.trans (hBf.mono hs1)⟩
        | false =>
          rw [hmt] at HG
          have hG1 := hide (show T.goes pre (q + 1) = true by rw [HG.out]; rfl)
          clear HG hno hmt
          go_wp2_with fail
          go_roundw
          case rel => exact ⟨q + 1, by omega, by go_num, hG1, hBf⟩
          case measure => simp [intOf] <;> omega
    · obtain rfl : q = N := by omega
      have hF := hide (show b = true by rw [hIso.out, hgo.out])
      go_wp2_with fail
      go_ret
      exact ⟨by rw [hF.out]; rfl, hb1.trans (hBe.mono hs1)⟩
end Go.Proofs.Ytkekgipeagchcaa
