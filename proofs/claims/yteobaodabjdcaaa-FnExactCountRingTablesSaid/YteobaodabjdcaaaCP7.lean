
/- The walk of fill, the recursion over the orbits. -/
import Derived.Test.YteobaodabjdcaaaCP6
namespace Go.Proofs.Yteobaodabjdcaaa
open Go Go.RowKit
set_option linter.unusedSimpArgs false
set_option linter.unusedVariables false
set_option maxRecDepth 100000
set_option maxHeartbeats 8000000 in
theorem fill_any {C : FiC} (ok : FiOk C) : ∀ (r at_ : Nat) (W : World) (f : F3) (cnt : Nat), at_ + r = C.os.length → FiI C f cnt W → (∀ a b c, 0 ≤ f a b c ∧ f a b c ≤ 1000) → cnt + (C.m + 1) ^ r ≤ 1000000 →
    Calls Try.prog 23 #[.int .i64 at_, .pointer (some ⟨C.aO, 0, none⟩), .pointer (some ⟨C.aR, 0, none⟩), .pointer (some ⟨C.aV, 0, none⟩), .pointer (some ⟨C.aM, 0, none⟩), .pointer (some ⟨C.aF, 0, none⟩)] W (FiP C (C.os.drop at_).flatten f (cnt + fillC C.n C.m (C.os.drop at_) f)) := by
  have hn1 := ok.n1
  have hn3 := ok.n3
  have hm4 := ok.m4
  intro r
  induction r with
  | zero =>
    intro at_ W f cnt hr hI hf hl
    obtain ⟨b, off, c, b1, o1, c1, b2, o2, c2, hv, hnc, hV⟩ := view_cub hI.tb (by omega)
    have hdr : C.os.drop at_ = [] := List.drop_eq_nil_of_le (by omega)
    have hFd := hide (show fillC C.n C.m (C.os.drop at_) f = okR3 C.n f by rw [hdr]; rfl)
    have hFt := hide (show (C.os.drop at_).flatten = [] by rw [hdr]; rfl)
    have hC := cub_cb hn1 (by omega) hf
    have hlen := cb_len C.n f
    have hFl := hide (fault_any W c b off b1 o1 c1 b2 o2 c2 (cub C.n f) W.heap.size (by rw [hlen]; exact hV) (Nat.le_refl _) hC (by rw [hlen]; exact hnc))
    rw [hlen] at hFl
    have hq := fun W A n c => Lib.run_eql_slice_nil (P := Try.prog) W 35 _ A n c 0 0 Try.underlying35
    have bO := hI.wr.blk ok.bO ok.nO
    have bR := hI.wr.blk ok.bR ok.nR
    have hat : (at_ : Int) = (C.os.length : Int) := by omega
    rw [hv] at bR
    have q0 := bO.cell 0
    have q1 := bR.cell 0
    rw [hat]
    clear hat hdr hC hlen
    go_enter Try.func23, Try.ntmps23
    go_wp2_with fail
    clear q0 q1
    refine hFl.out.mono ?_
    intro e w2 h2
    cases hfl : flt (cub C.n f) with
    | some xs =>
      have HR := hide (show okR3 C.n f = 0 by unfold okR3; rw [hfl]; rfl)
      rw [hfl] at h2
      obtain ⟨g, cap, rfl, ho, hb2⟩ := h2.out_some
      have hPo := hide (show FiP C (C.os.drop at_).flatten f (cnt + fillC C.n C.m (C.os.drop at_) f) (.returned (.tuple #[])) w2 from ⟨rfl, f, by rw [hFd.out, HR.out]; exact hI.below hb2, Agr.refl _ _, hf⟩)
      clear hfl h2 ho hI hV bO bR
      go_wp2_with fail
      refine bodyPost_ret (v := .tuple #[]) (by simp [results, Try.results23, go_sem]) rfl ?_
      exact hPo.out
    | none =>
      have HR := hide (show okR3 C.n f = 1 by unfold okR3; rw [hfl]; rfl)
      rw [hfl] at h2
      obtain ⟨rfl, hb2⟩ := h2.out_none
      have hI2 := hI.below hb2
      have bR2 := hI2.wr.blk ok.bR ok.nR
      have bV2 := hI2.wr.blk ok.bV ok.nV
      rw [hv] at bR2
      have q1 := bR2.cell 0
      have q2 := bV2.cell 0
      have hl1 := bR2.lt
      have hl2 := bV2.lt
      clear hfl h2 hI hV bO bR hFl
      go_wp2_with fail
      refine wp_region_btc (.one 0 (.one 1 (.one 2 (.one 3 .nil)))) 3 w2.heap.size w2 (by kernel_rfl) (by kernel_rfl) (by kernel_rfl) (fun _ _ _ _ _ h => h) (Below.refl _ _) (fun wd hBe => ?_)
      repeat (first | (apply ot_tk rfl (by rfl) (by rfl) (by rfl); (focus (intro wx hSw; have s1 := (hSw.cell (p := ⟨C.aR, 0, none⟩) hl1).trans q1; have s2 := (hSw.cell (p := ⟨C.aV, 0, none⟩) hl2).trans q2; go_simp; (try with_reducible rfl))); (try simp only [Act.put, List.setIfInBounds_toArray, List.set_cons_zero, List.set_cons_succ])) | (apply ot_skip rfl (by rfl) (by rfl) (fun _ => hBe); (try simp only [Act.put, List.setIfInBounds_toArray, List.set_cons_zero, List.set_cons_succ])))
      have hId := hI2.below hBe
      obtain ⟨A3, c3, e3, hS3⟩ := E3.sl3 hId.tb
      rw [cb_len, hv] at e3
      rw [cb_len] at hS3
      injection e3 with e4 _ e5
      subst e4; subst e5
      have hCo := hide (copyRing_any wd C.n c (some ⟨b, off, none⟩) f hS3 hn1 (by omega))
      refine ot_do rfl (by rfl) (by rfl) (fun K hK => ?_)
      go_simp
      refine hCo.out.mono ?_
      rintro e wc ⟨vc, rfl, hEc, hbc⟩
      have hIc := hId.below hbc
      have hBc := hBe.trans (hbc.mono hBe.size)
      clear hBe hId hEc hS3
      refine hK.out _ _ (fun _ => hBc) ?_
      (try simp only [Act.put, List.setIfInBounds_toArray, List.set_cons_zero, List.set_cons_succ])
      clear hK K
      have hVi := hide (visit_any wc vc C.X cnt hIc.bX (by omega))
      refine ot_do rfl (by rfl) (by rfl) (fun K hK => ?_)
      go_simp
      refine hVi.out.mono ?_
      rintro e wv ⟨rfl, hXv, hWv⟩
      have hPo := hide (show FiP C (C.os.drop at_).flatten f (cnt + fillC C.n C.m (C.os.drop at_) f) (.returned (.tuple #[])) wv from ⟨rfl, f, by
        rw [hFd.out, HR.out]
        exact ⟨hIc.wr.trans (hWv.mono fun b hb => .inr hb), kp3 _ _ _ _ _ hIc.tb (fun b' hb' => hWv.block b' (hIc.tb.bd b' hb') (fun e => ok.nX (by rw [← e]; exact hb'))) hWv.size, hXv⟩, Agr.refl _ _, hf⟩)
      clear hIc hBc hbc
      refine hK.out _ _ (fun h => absurd h (by omega)) ?_
      (try simp only [Act.put, List.setIfInBounds_toArray, List.set_cons_zero, List.set_cons_succ])
      clear hK K
      refine ot_nil ?_
      go_wp2_with fail
      refine bodyPost_ret (v := .tuple #[]) (by simp [results, Try.results23, go_sem]) rfl ?_
      exact hPo.out
  | succ r ih =>
    intro at_ W f cnt hr hI hf hl
    have hlt : at_ < C.os.length := by omega
    obtain ⟨o, ho⟩ : ∃ o, C.os[at_]? = some o := ⟨C.os[at_], List.getElem?_eq_getElem hlt⟩
    have hdr : C.os.drop at_ = o :: C.os.drop (at_ + 1) := by
      rw [List.drop_eq_getElem_cons hlt]
      congr 1
      rw [List.getElem?_eq_getElem hlt] at ho
      injection ho
    obtain ⟨bk, ck, hck, hSk, hnk⟩ := ok.rows at_ o ho
    obtain ⟨hol, hom⟩ := ok.rng o (List.mem_of_getElem? ho)
    obtain ⟨G, hG⟩ : ∃ G, (fun v : Nat => fillC C.n C.m (C.os.drop (at_ + 1)) (updL o (v : Int) f)) = G := ⟨_, rfl⟩
    have HG := hide (show fillC C.n C.m (C.os.drop at_) f = sumN G (C.m + 1) by rw [hdr, ← hG]; rfl)
    have HGv := hide (fun v : Nat => show G v = fillC C.n C.m (C.os.drop (at_ + 1)) (updL o (v : Int) f) by rw [← hG])
    have HGl := hide (fun (v : Nat) => show G v ≤ (C.m + 1) ^ r by rw [HGv.out v]; have := fillC_le C.n C.m (C.os.drop (at_ + 1)) (updL o (v : Int) f); rw [List.length_drop, show C.os.length - (at_ + 1) = r by omega] at this; exact this)
    have HD := hide (show (C.os.drop at_).flatten = o ++ (C.os.drop (at_ + 1)).flatten by rw [hdr]; rfl)
    have hne : ((at_ : Int) == (C.os.length : Int)) = false := by rw [beq_eq_false_iff_ne]; omega
    have bO := hI.wr.blk ok.bO ok.nO
    have bM := hI.wr.blk ok.bM ok.nM
    have q0 := bO.cell 0
    have q1 := bM.cell 0
    have hag0 : Agr (C.os.drop at_).flatten f f := Agr.refl _ _
    clear hdr hG
    go_enter Try.func23, Try.ntmps23
    go_wp2_with fail
    clear q0 q1 bO bM
    go_loopw [23] (fun i wr => ∃ (k : Nat) (g : F3), k ≤ C.m + 1 ∧ i = .int .i64 k ∧ FiI C g (cnt + sumN G k) wr ∧ Agr (C.os.drop at_).flatten f g ∧ ∀ a b c, 0 ≤ g a b c ∧ g a b c ≤ 1000) (fun i _ => C.m + 1 - (intOf i).toNat)
    case atStart => exact ⟨0, f, by omega, rfl, hI, hag0, hf⟩
    case round =>
      clear hI hag0 hf
      obtain ⟨k, g, hk, rfl, hI, hag, hf⟩ := hrel
      by_cases hkm : k < C.m + 1
      · have bO := hI.wr.blk ok.bO ok.nO
        have q0 := bO.cell 0
        have q1 := (hI.wr.cell (p := ⟨C.bo, at_, none⟩) ok.no.1 ok.no.2).trans hck
        have hcap := ok.cap
        have hki : (k : Int) < (C.m : Int) + 1 := by omega
        go_wp2_with fail
        clear q0 q1 bO
        obtain ⟨wk, rfl⟩ : ∃ wk, wk = wr := ⟨_, rfl⟩
        have hI0 : FiI C (updL (o.take 0) (k : Int) g) (cnt + sumN G k) wk := hI
        clear hI
        go_loopw [31] (fun i wx => ∃ q : Nat, q ≤ o.length ∧ i = .int .i64 q ∧ FiI C (updL (o.take q) (k : Int) g) (cnt + sumN G k) wx) (fun i _ => o.length - (intOf i).toNat)
        case atStart => exact ⟨0, by omega, rfl, hI0⟩
        case round =>
          clear hI0
          obtain ⟨q, hq, rfl, hI⟩ := hrel
          by_cases hlq : q < o.length
          · obtain ⟨⟨x, y, z⟩, hx⟩ : ∃ t, o[q]? = some t := ⟨o[q], List.getElem?_eq_getElem hlq⟩
            obtain ⟨c0, c1, c2⟩ := (hSk.wr hI.wr (Nat.le_refl _) hnk).at_ q _ hx
            have hcp := hSk.cap
            obtain ⟨hx1, hy1, hz1⟩ := hom _ (List.mem_of_getElem? hx)
            simp only at c0 c1 c2 hx1 hy1 hz1
            have HT := hide (show updL (o.take (q + 1)) (k : Int) g = upd (updL (o.take q) (k : Int) g) x y z k by rw [List.take_add_one, hx]; exact updL_snoc _ _ _ _)
            clear hx
            go_upto_region 9 with fail
            obtain ⟨w5, hw5⟩ : ∃ w5, wr.alloc (.cells #[.int .i64 x, .int .i64 y, .int .i64 z] 49) = w5 := ⟨_, rfl⟩
            have hb5 : Below wr.heap.size wr w5 := by rw [← hw5]; exact (by repeat (first | assumption | exact Below.refl _ _ | apply below_drewN | apply Below.drew | apply Below.alloc | apply Below.setCell | omega | (focus (simp; done)) | (focus (simp; omega))))
            have bX : Blk w5 wr.heap.size 49 #[.int .i64 x, .int .i64 y, .int .i64 z] := by rw [← hw5]; exact Blk.new _ _ _
            rw [hw5]
            clear hw5 c0 c1 c2
            have hI5 := hI.below hb5
            clear hI
            obtain ⟨g0, g1, g2, cc, c1, c2, hv, hg0, hg1, hg2, k0, k1, ⟨u0, k2⟩, k3, k4, hE4⟩ := hI5.tb.put_later hx1 hy1 hz1 (show i64ok (k : Int) from ⟨by omega, by omega⟩)
            have bR := hI5.wr.blk ok.bR ok.nR
            rw [hv] at bR
            have x0 := bX.cell 0
            have x1 := bX.cell 1
            have x2 := bX.cell 2
            have r0 := bR.cell 0
            have hlr := bR.lt
            have hlx := bX.lt
            refine wp_region_be [0, 1, 2, 3, 4, 5, 6, 7, 8, 9, 10, 11, 12, 13, 14] 13 w5.heap.size w5 (by kernel_rfl) (by kernel_rfl) (by kernel_rfl) (fun _ _ _ _ _ h => h) (Below.refl _ _) (fun wd hBe => ?_)
            repeat (first | (apply ord_tk rfl (by rfl) (by rfl) (by rfl); (focus (intro wx hSw; have s0 := (hSw.cell (p := ⟨wr.heap.size, 0, none⟩) hlx).trans x0; have s1 := (hSw.cell (p := ⟨wr.heap.size, 1, none⟩) hlx).trans x1; have s2 := (hSw.cell (p := ⟨wr.heap.size, 2, none⟩) hlx).trans x2; have s3 := (hSw.cell (p := ⟨C.aR, 0, none⟩) hlr).trans r0; have s4 := (hSw.cell (p := ⟨g0, x, none⟩) hg0).trans k0; have s5 := (hSw.cell (p := ⟨g1, y, none⟩) hg1).trans k1; go_simp; (try with_reducible rfl))); (try simp only [Act.put, List.setIfInBounds_toArray, List.set_cons_zero, List.set_cons_succ])) | (apply ord_skip rfl (by rfl) (by rfl) (fun _ => hBe); (try simp only [Act.put, List.setIfInBounds_toArray, List.set_cons_zero, List.set_cons_succ])))
            have t2 := (hBe.cell (p := ⟨g2, z, none⟩) hg2).trans k2
            have t3 : wd.frozen? ⟨g2, z, none⟩ = false := (hBe.frozen (p := ⟨g2, z, none⟩) hg2).trans k3
            refine ord_do rfl (by rfl) (by rfl) (fun K hK => ?_)
            go_simp
            refine hK.out _ _ (fun h => absurd h (by omega)) ?_
            (try simp only [Act.put, List.setIfInBounds_toArray, List.set_cons_zero, List.set_cons_succ])
            clear hK K
            refine ord_do rfl (by rfl) (by rfl) (fun K hK => ?_)
            go_simp
            refine hK.out _ _ (fun h => absurd h (by omega)) ?_
            (try simp only [Act.put, List.setIfInBounds_toArray, List.set_cons_zero, List.set_cons_succ])
            clear hK K
            refine ord_nil ?_
            have hId := hI5.below hBe
            have hE5 := hE4 wd hBe
            rw [← HT.out] at hE5
            have hWs : Wr wd (wd.setCell ⟨g2, z, none⟩ (.int .i64 k)) C.W := ⟨rfl, rfl, rfl, by simp [World.setCell], fun b' _ hn => Below.heap_setCell _ _ _ _ (fun e => hn (.inl (by have e' : b' = g2 := e; rw [e']; exact k4)))⟩
            have hIn : FiI C (updL (o.take (q + 1)) (k : Int) g) (cnt + sumN G k) (wd.setCell ⟨g2, z, none⟩ (.int .i64 k)) := ⟨hId.wr.trans hWs, hE5, hId.bX.far (p := ⟨g2, z, none⟩) (fun e => ok.nX (by rw [e]; exact k4)) _⟩
            clear hE4 hE5 hId hI5 k0 k1 k2 k3 t2 t3 hBe x0 x1 x2 r0 bX bR hWs hv
            go_wp2_with fail
            go_roundw
            case rel => exact ⟨q + 1, by omega, by go_num, hIn⟩
            case measure => simp [intOf] <;> omega
          · obtain rfl : q = o.length := by omega
            rw [List.take_of_length_le (Nat.le_refl _)] at hI
            have hgr : ∀ a b c, 0 ≤ updL o (k : Int) g a b c ∧ updL o (k : Int) g a b c ≤ 1000 := fun a b c => by
              rw [updL_at]; split
              · exact ⟨by omega, by omega⟩
              · exact hf a b c
            have hsum : sumN G (k + 1) = sumN G k + G k := rfl
            have HSum := hide hsum
            have hle1 : cnt + sumN G k + (C.m + 1) ^ r ≤ 1000000 := by
              have h1 : sumN G k ≤ k * (C.m + 1) ^ r := sumN_le fun v _ => HGl.out v
              have h2 : k * (C.m + 1) ^ r + (C.m + 1) ^ r ≤ (C.m + 1) ^ (r + 1) := by
                rw [Nat.pow_succ, ← Nat.succ_mul, Nat.mul_comm]
                exact Nat.mul_le_mul_left _ (by omega)
              omega
            have hIH := ih (at_ + 1) wr (updL o (k : Int) g) (cnt + sumN G k) (by omega) hI hgr hle1
            have hGk : fillC C.n C.m (C.os.drop (at_ + 1)) (updL o (k : Int) g) = G k := by
              rw [HGv.out k]
              refine (fillC_agr _ _ _ _ _ (agr_updL o _ _ f g ?_)).symm
              rw [← HD.out]; exact hag
            rw [hGk, Nat.add_assoc, ← HSum.out, show ((at_ + 1 : Nat) : Int) = (at_ : Int) + 1 by omega] at hIH
            have HIH := hide hIH
            have bF := hI.wr.blk ok.bF ok.nF
            unfold FiC.cl at bF
            have hat8 : at_ < 8 := by have := ok.many; omega
            have q0 := bF.cell 0
            clear hIH hgr hle1 hGk hsum hI bF
            go_wp2_with fail
            clear q0
            refine HIH.out.mono ?_
            rintro e w9 ⟨rfl, f', hI9, hag9, hf9⟩
            have hagn : Agr (C.os.drop at_).flatten f f' := by
              refine hag.trans ?_
              rw [HD.out]
              exact (agr_of_updL o _ (k : Int) g).trans (hag9.mono fun t ht => List.mem_append_right _ ht)
            go_wp2_with fail
            go_roundw
            case rel => exact ⟨k + 1, f', by omega, by go_num, hI9, hagn, hf9⟩
            case measure => simp [intOf] <;> omega
      · obtain rfl : k = C.m + 1 := by omega
        have hPo := hide (show FiP C (C.os.drop at_).flatten f (cnt + fillC C.n C.m (C.os.drop at_) f) (.returned (.tuple #[])) wr from ⟨rfl, g, by rw [HG.out]; exact hI, hag, hf⟩)
        have hki : ¬ ((C.m + 1 : Nat) : Int) < (C.m : Int) + 1 := by omega
        clear hI hag hf
        go_wp2_with fail
        refine bodyPost_end (v := .tuple #[]) (by simp [results, Try.results23, go_sem]) rfl ?_
        exact hPo.out
end Go.Proofs.Yteobaodabjdcaaa
