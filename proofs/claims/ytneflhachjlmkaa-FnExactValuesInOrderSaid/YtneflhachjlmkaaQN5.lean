
/- The walk of the program's condense. -/
import Derived.Test.YtneflhachjlmkaaQN4
namespace Go.Proofs.Ytneflhachjlmkaa
open Go Go.RowKit Grp
set_option linter.unusedSimpArgs false
set_option linter.unusedVariables false
set_option maxRecDepth 100000
set_option maxHeartbeats 8000000 in
theorem condense_any (w : World) (A : Option Addr) (n c : Nat) (os : List Int) (D : Int) (A' : Option Addr) (n' c' : Nat) (vs : List Int) (L : Option Addr) (l lc : Nat) (xs : List Int)
    (h : Sl w w.heap.size A n c os) (h' : Sl w w.heap.size A' n' c' vs) (hx : Sl w w.heap.size L l lc xs) (hl : l ≤ 1048576) (hC : Cs os D vs xs) :
    Calls Try.prog 92 #[.agg #[.slice A n c, .int .i64 D, .slice A' n' c'], .slice L l lc] w (MkE quotient_E w (condQ os D vs xs)) := by
  obtain rfl := h'.len
  obtain rfl := hx.len
  obtain ⟨O, hOe⟩ : ∃ O, ortL os D vs xs vs.length = O := ⟨_, rfl⟩
  have HC := hide hC
  have HOe := hide hOe.symm
  have hG := hC.g
  have hO16 := hC.lenO hOe.symm
  have h0O : 0 ∈ O := hC.subO hOe.symm hC.zero
  have HN := hide hC.m.ok.len
  have hok := hide hC.m.ok
  have HI := hide hC.rng
  have hp16 := hG.p16
  have hx16 := hC.len (fun _ => trivial)
  have hQ : condQ os D vs xs = (ldL os xs O O.length, ctab os xs (ldL os xs O O.length), D, (ldL os xs O O.length).map (Vl vs)) := by unfold condQ ldO; rw [hOe]
  have HQ := hide hQ
  clear hQ hC
  have hmm := @run_makeMap Try.prog
  go_enter Try.func92, Try.ntmps92
  go_wp2_with fail
  obtain ⟨W, hW⟩ : ∃ W, (w.alloc (.cells #[.slice A n c, .int .i64 D, .slice A' vs.length c'] 28)).alloc (.cells #[.slice none 0 0, .slice none 0 0, .int .i64 0, .slice none 0 0] 40) = W := ⟨_, rfl⟩
  have hbW : Below w.heap.size w W := by rw [← hW]; exact (by repeat (first | assumption | exact Below.refl _ _ | apply below_drewN | apply Below.drew | apply Below.alloc | apply Below.setCell | omega | (focus (simp; done)) | (focus (simp; omega))))
  have hszW : w.heap.size < W.heap.size := by rw [← hW]; simp; omega
  have hsW := hide (show W.heap.size = w.heap.size + 2 by rw [← hW]; simp)
  have bM : Blk W w.heap.size 28 #[.slice A n c, .int .i64 D, .slice A' vs.length c'] := by rw [← hW]; exact (Blk.new _ _ _).alloc _
  have bR : Blk W (w.heap.size + 1) 40 #[.slice none 0 0, .slice none 0 0, .int .i64 0, .slice none 0 0] := by rw [← hW]; exact Blk.new' _ _ _ _ (by simp)
  have q0 := bM.cell 0
  have q1 := bM.cell 1
  have q2 := bM.cell 2
  rw [hW]
  clear hW hmm
  obtain ⟨m, hm⟩ : ∃ m, w.heap.size + 1 + 1 = m := ⟨_, rfl⟩
  rw [hm]
  have hWm : W.heap.size = m := by have := hsW.out; omega
  obtain ⟨g, hg⟩ : ∃ g, m + 1 = g := ⟨_, rfl⟩
  rw [hg]
  have hgW : W.heap.size ≤ g := by omega
  have hmW : W.heap.size ≤ m := by omega
  have hs := (h.below hbW).more (Nat.le_of_lt hszW)
  have hs' := (h'.below hbW).more (Nat.le_of_lt hszW)
  have hxs := (hx.below hbW).more (Nat.le_of_lt hszW)
  have hsl : ∀ wd, Below W.heap.size W wd → Sl wd wd.heap.size A n c os := fun wd h => (hs.below h).more h.size
  have hsv : ∀ wd, Below W.heap.size W wd → Sl wd wd.heap.size A' vs.length c' vs := fun wd h => (hs'.below h).more h.size
  have hsx : ∀ wd, Below W.heap.size W wd → Sl wd wd.heap.size L xs.length lc xs := fun wd h => (hxs.below h).more h.size
  have hort := fun W' (hb : Below W.heap.size W W') => orthogonal_any W' A n c os D A' vs.length c' vs L xs.length lc xs (hsl _ hb) (hsv _ hb) (hsx _ hb) hl hok.out HI.out
  rw [hOe] at hort
  clear hOe
  obtain ⟨W1, hW1⟩ : ∃ W1, (W.alloc (.map #[] 0)).alloc (.cells #[.slice none 0 0, .slice none 0 0, .int .i64 D, .slice none 0 0] 40) = W1 := ⟨_, rfl⟩
  have hB1 : Below W.heap.size W W1 := by rw [← hW1]; exact (by repeat (first | assumption | exact Below.refl _ _ | apply below_drewN | apply Below.drew | apply Below.alloc | apply Below.setCell | omega | (focus (simp; done)) | (focus (simp; omega))))
  have bQ : Blk W1 g 40 #[.slice none 0 0, .slice none 0 0, .int .i64 D, .slice none 0 0] := by rw [← hW1]; exact Blk.new' _ _ _ _ (by simp; omega)
  have hM1 : Mp W1 m 0 (.map []) := by
    rw [← hW1, ← hWm]
    exact World.ownsMap.alloc (World.ownsMap_made _ _ _ _) _
  have HW1 := hide (show W.heap.size ≤ W1.heap.size from hB1.size)
  rw [hW1]
  clear hW1
  refine (hort W1 hB1).mono ?_
  rintro e W2 ⟨vO, rfl, hO, hb2⟩
  have hI : QIn W g vO (.slice none 0 0) (.slice none 0 0) O [] [] D W2 :=
    ⟨hO.less HW1.out, bQ.all hb2, Ow.nil _ _, Ow.nil _ _, fun b hb => by simp [Value.ownBlock], fun b hb => by simp [Value.ownBlock], fun b hb => by simp [Value.ownBlock], hB1.trans (hb2.mono HW1.out)⟩
  have hM := hM1.below hb2
  clear hO hb2 hM1 bQ hB1
  rcases hI.orth.form with ⟨_, e⟩ | ⟨bo, capo, rfl, hbo, _, _⟩
  · rw [e] at h0O; simp at h0O
  have HL0 := hide (show ldL os xs O 0 = [] by simp [ldL])
  have HC0 := hide (show Cov (.map []) (prodL os) (CovK os xs O 0) (fun y => idxF [] (ldr os xs y)) from (Cov.none (f := fun y => idxF [] (ldr os xs y))).imp (fun y _ _ => ⟨fun h => h.elim, fun h => (CovK.zero y h).elim⟩) (fun _ _ _ _ => rfl))
  go_wp2_with fail
  go_loopw [26] (fun i wx => ∃ (k cnt : Nat) (vL vV : Value) (Ls V : List Int) (M : DataW Unit), k ≤ O.length ∧ i = .int .i64 k ∧ Hid (Ls = ldL os xs O k) ∧ Hid (V = Ls.map (Vl vs)) ∧ Hid (Cov M (prodL os) (CovK os xs O k) (fun y => idxF Ls (ldr os xs y))) ∧ cnt ≤ k * 16 ∧ QIn W g (.slice (some ⟨bo, 0, none⟩) O.length capo) vL vV O Ls V D wx ∧ Mp wx m cnt M) (fun i _ => O.length - (intOf i).toNat)
  case atStart => exact ⟨0, 0, _, _, [], [], _, by omega, rfl, hide HL0.out.symm, hide rfl, HC0, by omega, hI, hM⟩
  case round =>
    clear hI hM
    obtain ⟨k, cnt, vL, vV, Ls, V, M, hk, rfl, hLs, hVs, hCov, hcnt, hI, hM⟩ := hrel
    have hLl : Ls.length ≤ k := by rw [hLs.out]; exact ldL_len _ _ _ _
    have hVl : V.length ≤ k := by rw [hVs.out]; simpa using hLl
    by_cases hlt : k < O.length
    · obtain ⟨x0, x1, -⟩ := (HC.out.memO HOe.out).1 (gi_mem hlt)
      have cO := hI.orth.cell rfl hlt
      have hT := hide (fun h : ldr os xs (gi O k) = gi O k => ldL_t hlt h)
      have hF := hide (fun h : ldr os xs (gi O k) ≠ gi O k => ldL_f hlt h)
      have hMet := HC.out.met HOe.out hlt
      have hcF := fun h => HC.out.covF HOe.out hlt h
      have hcT := fun h => HC.out.covT HOe.out hlt h
      have hnL := HC.out.notL HOe.out hlt
      obtain ⟨x, ex⟩ : ∃ x : Nat, gi O k = (x : Int) := ⟨(gi O k).toNat, by omega⟩
      rw [ex] at x0 x1 cO hT hF hMet hcF hcT hnL
      have hxo := hide (show (x : Int) ∈ O by rw [← ex]; exact gi_mem hlt)
      have hEX := hide ex
      clear ex
      have hcx := (hCov.out x x0 x1).1
      have hkx : i64ok (x : Int) := ⟨by omega, by omega⟩
      by_cases hex : ldr os xs (x : Int) = x
      · have hhas : Maps.has M (.int .i64 (x : Int)) = false := by
          cases hh : Maps.has M (.int .i64 (x : Int)) with
          | false => rfl
          | true => exact absurd hex (hMet.1 (hcx.1 hh))
        have hTT := hide (hT.out hex)
        have hCT := hide (hcT hex)
        have hEq := hide hex
        have HNL := hide (show (x : Int) ∉ Ls by rw [hLs.out]; exact hnL)
        clear hT hF hMet hcF hcT hcx hnL hex
        go_wp2_with (at_lookup; refine wpList_lookup_own_ok_int _ rfl _ _ 133 rfl 2 2 .i64 law64 Try.underlying133 Try.underlying2 (zero64 _) m cnt M rfl hM _ _ rfl (key64 hkx) ?_; intro c9 hat hwc; rw [hhas])
        obtain ⟨AL, cL, rfl⟩ := hI.lds.val
        obtain ⟨AV, cV, rfl⟩ := hI.vals.val
        have HCov0 := hide (show Cov M (prodL os) (fun y => CovK os xs O k y ∨ ∃ i, i < 0 ∧ y = Ar os x (gi xs i)) (fun y => idxF (Ls ++ [(x : Int)]) (ldr os xs y)) from hCov.out.imp (fun y _ _ => ⟨.inl, fun h => h.elim id (fun ⟨i, hi, _⟩ => absurd hi (by omega))⟩) (fun y _ _ hy => (idxF_app (by rw [hLs.out]; exact HC.out.idx HOe.out (hy.elim id (fun ⟨i, hi, _⟩ => absurd hi (by omega))))).symm))
        go_loopw [39] (fun i wx => ∃ (j cnt2 : Nat) (M2 : DataW Unit), j ≤ xs.length ∧ i = .int .i64 j ∧ Hid (Cov M2 (prodL os) (fun y => CovK os xs O k y ∨ ∃ i, i < j ∧ y = Ar os x (gi xs i)) (fun y => idxF (Ls ++ [(x : Int)]) (ldr os xs y))) ∧ cnt2 ≤ k * 16 + j ∧ QIn W g (.slice (some ⟨bo, 0, none⟩) O.length capo) (.slice AL Ls.length cL) (.slice AV V.length cV) O Ls V D wx ∧ Mp wx m cnt2 M2) (fun i _ => xs.length - (intOf i).toNat)
        case atStart => exact ⟨0, cnt, M, by omega, rfl, HCov0, by omega, hI, hM⟩
        case round =>
          clear hI hM HCov0 hhas cO
          obtain ⟨j, cnt2, M2, hj, rfl, hC2, hcnt2, hI, hM⟩ := hrel
          have hBI := hI.below
          have hzW := hBI.size
          have hz0 : w.heap.size < wr.heap.size := Nat.lt_of_lt_of_le hszW hzW
          by_cases hlj : j < xs.length
          · obtain ⟨b, off, rfl, hb, hc⟩ := hxs.at_ (by omega)
            have c1 := (hBI.cell (p := ⟨b, off + j, none⟩) hb).trans (hc j hlj)
            clear hc
            obtain ⟨y0, y1⟩ := HI.out _ (gi_mem hlj)
            have hmem := gi_mem hlj
            have hz := hide (HC.out.coset x0 x1 hmem)
            have hrz := Ar_rng hG x (gi xs j)
            have HZ := hide (show ∀ s, Ar os x (gi xs j) = s → Cov (M2.put (.int .i64 s) (.lit (.int .i64 (Ls.length : Int)))) (prodL os) (fun y => CovK os xs O k y ∨ ∃ i, i < j + 1 ∧ y = Ar os x (gi xs i)) (fun y => idxF (Ls ++ [(x : Int)]) (ldr os xs y)) from fun s hs => by
              have h9 := hC2.out.put (World.ownsMap.isMap hM) (z := s) (v := (Ls.length : Int)) (by rw [← hs, hz.out, hEq.out]; exact idxF_new HNL.out)
              refine h9.imp (fun y _ _ => ?_) (fun _ _ _ _ => rfl)
              constructor
              · rintro ((h | ⟨i, hi, e⟩) | e)
                · exact .inl h
                · exact .inr ⟨i, by omega, e⟩
                · exact .inr ⟨j, by omega, by rw [e, ← hs]⟩
              · rintro (h | ⟨i, hi, e⟩)
                · exact .inl (.inl h)
                · by_cases hij : i = j
                  · exact .inr (by rw [e, hij, hs])
                  · exact .inl (.inr ⟨i, by omega, e⟩))
            have hpl := fun W' (hb : Below W.heap.size W W') => plus_any W' (.int .i64 D) (.slice A' vs.length c') A n c os x (gi xs j) (hsl _ hb) hG x0 (by omega) y0 (by omega)
            obtain ⟨s, es⟩ : ∃ s, Ar os x (gi xs j) = s := ⟨_, rfl⟩
            rw [es] at hpl hrz
            have HZ2 := hide (HZ.out s es)
            obtain ⟨y, ey⟩ : ∃ y, gi xs j = y := ⟨_, rfl⟩
            rw [ey] at c1 y0 y1 hpl
            clear ey es HZ hmem hz
            have p0 := (hBI.cell (p := ⟨w.heap.size, 0, none⟩) hszW).trans q0
            have p1 := (hBI.cell (p := ⟨w.heap.size, 1, none⟩) hszW).trans q1
            have p2 := (hBI.cell (p := ⟨w.heap.size, 2, none⟩) hszW).trans q2
            have o0 := hI.out.cell 0
            have hgl := hI.out.lt
            have hs64 : i64ok s := ⟨by omega, by omega⟩
            have hl64 : i64ok (Ls.length : Int) := ⟨by omega, by omega⟩
            go_wp2_with fail
            refine wp_region_be [0, 1, 2, 3, 5, 6, 7, 4, 8] 8 wr.heap.size wr (by kernel_rfl) (by kernel_rfl) (by kernel_rfl) (fun _ _ _ _ _ h => h) (Below.refl _ _) (fun wd hBe => ?_)
            repeat (first | (apply ord_tk rfl (by rfl) (by rfl) (by rfl); (focus (intro wx hSw; have r0 := (hSw.cell (p := ⟨w.heap.size, 0, none⟩) hz0).trans p0; have r1 := (hSw.cell (p := ⟨w.heap.size, 1, none⟩) hz0).trans p1; have r2 := (hSw.cell (p := ⟨w.heap.size, 2, none⟩) hz0).trans p2; have r3 := (hSw.cell (p := ⟨g, 0, none⟩) hgl).trans o0; go_simp; (try with_reducible rfl))); (try simp only [Act.put, List.setIfInBounds_toArray, List.set_cons_zero, List.set_cons_succ])) | (apply ord_skip rfl (by rfl) (by rfl) (fun _ => hBe); (try simp only [Act.put, List.setIfInBounds_toArray, List.set_cons_zero, List.set_cons_succ])))
            refine ord_do rfl (by rfl) (by rfl) (fun K hK => ?_)
            go_simp
            refine (hpl _ (hBI.trans (hBe.mono hzW))).mono ?_
            rintro e wd' ⟨rfl, hwd⟩
            replace hBe := hBe.trans (hwd.mono hBe.size)
            clear hwd
            refine hK.out _ _ (fun _ => hBe) ?_
            (try simp only [Act.put, List.setIfInBounds_toArray, List.set_cons_zero, List.set_cons_succ])
            clear hK K
            have hM3 := hM.below hBe
            have hI3 := hI.all hBe
            refine ord_do rfl (by rfl) (by rfl) (fun K hK => ?_)
            refine wp_mapSet _ _ _ _ _ (by rfl) Try.underlying133 m cnt2 M2 (by rfl) hM3 (by omega) s (Ls.length : Int) (by rfl) (by rfl) hs64 hl64 ?_
            intro w5 hM5 hg5
            refine hK.out _ _ (fun h => absurd h (by omega)) ?_
            (try simp only [Act.put, List.setIfInBounds_toArray, List.set_cons_zero, List.set_cons_succ])
            clear hK K
            refine ord_nil ?_
            have hI5 := hide (hI3.map hM3 hg5 hmW)
            clear hI hM hI3 hM3 hg5 p0 p1 p2 o0 hBe hBI hpl c1
            go_wp2_with fail
            go_roundw
            case rel => exact ⟨j + 1, cnt2 + 1, _, by omega, by go_num, HZ2, by omega, hI5.out, hM5⟩
            case measure => simp [intOf] <;> omega
          · obtain rfl : j = xs.length := by omega
            have hCE := hide (show Cov M2 (prodL os) (CovK os xs O (k + 1)) (fun y => idxF (Ls ++ [(x : Int)]) (ldr os xs y)) from hC2.out.imp (fun y h0 h1 => hCT.out y h0 h1) (fun _ _ _ _ => rfl))
            have hxN : x < vs.length := by have := HN.out; omega
            obtain ⟨bv, ov, rfl, hbv, hcv⟩ := hs'.at_ (by omega)
            have cv0 := hcv x hxN
            have hV1 := hide (show V ++ [gi vs x] = (Ls ++ [(x : Int)]).map (Vl vs) by rw [hVs.out]; simp [Vl])
            have hL1 := hide (show Ls ++ [(x : Int)] = ldL os xs O (k + 1) by rw [hTT.out, ← hLs.out])
            obtain ⟨v, ev⟩ : ∃ v, gi vs x = v := ⟨_, rfl⟩
            rw [ev] at cv0 hV1
            clear hcv ev
            have HR := hide (show ∀ wx, Below W.heap.size W wx → wx.cell? ⟨w.heap.size, 2, none⟩ = some (.slice (some ⟨bv, ov, none⟩) vs.length c') ∧ wx.cell? ⟨bv, ov + x, none⟩ = some (.int .i64 v) from fun wx hwx => ⟨(hwx.cell (p := ⟨w.heap.size, 2, none⟩) hszW).trans q2, (hwx.cell (p := ⟨bv, ov + x, none⟩) hbv).trans cv0⟩)
            have hx0 : 0 ≤ (x : Int) := by omega
            have hxN' : (x : Int) < (vs.length : Int) := by omega
            have hH := (hI.hand hM).all ((Below.refl wr.heap.size wr).drew)
            have hvb := hI.lds.lt
            have hvv := hI.vals.lt
            clear hI hM hBI
            go_wp2_with fail
            refine wp_region_otc (.one 0 (.one 1 (.one 2 (.one 5 (.one 6 (.one 7 (.one 8 (.one 9 (.one 10 (.one 11 (.two 3 (.two 4 (.one 14 (.one 12 (.one 13 (.one 15 (.one 16 (.one 17 .nil)))))) 12 (.one 4 (.one 14 (.one 13 (.one 15 (.one 16 (.one 17 .nil))))))) 12 (.one 3 (.one 4 (.one 14 (.one 13 (.one 15 (.one 16 (.one 17 .nil)))))))))))))))))) 15 (fun w' => w'.cell? ⟨g, 0, none⟩ = some (.slice AL Ls.length cL) ∧ w'.cell? ⟨g, 3, none⟩ = some (.slice AV V.length cV) ∧ w'.cell? ⟨w.heap.size, 2, none⟩ = some (.slice (some ⟨bv, ov, none⟩) vs.length c') ∧ w'.cell? ⟨bv, ov + x, none⟩ = some (.int .i64 v)) (by kernel_rfl) (by kernel_rfl) (by kernel_rfl) (fun _ _ _ _ _ h => h) ⟨hH.out.cell 0, hH.out.cell 3, HR.out _ hH.below⟩ ?_
            have hsd : wr.drew.heap.size = wr.heap.size := rfl
            obtain ⟨wd, hwd⟩ : ∃ wd, wr.drew = wd := ⟨_, rfl⟩
            rw [hwd] at hH hsd ⊢
            rw [← hsd] at hvb hvv
            clear hwd hsd
            repeat (apply ot_tk rfl (by rfl) (by rfl) (by rfl); (focus (rintro wx ⟨a1, a2, a3, a4⟩; go_simp; (try with_reducible rfl))); (try simp only [Act.put, List.setIfInBounds_toArray, List.set_cons_zero, List.set_cons_succ]))
            refine ot_two ?_ ?_
            · skip
              refine ot_do rfl (by rfl) (by rfl) (fun K hK => ?_)
              go_simp
              obtain ⟨wa, HL, hHe, hwa, hBa, hsub, bL, hHB⟩ := be_alloc hH.below 2 #[.int .i64 (x : Int)]
              have hsz := hide (show wa.heap.size = HL + 1 by rw [← hwa, ← hHe]; simp)
              have hHE := hide hHe
              rw [hwa, hHe]
              clear hHe
              (try replace bV := bV.all hsub)
              (try replace bL := bL.all hsub)
              clear hwa hBa hHB
              replace hH := hH.all hsub
              clear hsub
              refine hK.out _ _ (fun _ => ⟨hH.out.cell 0, hH.out.cell 3, HR.out _ hH.below⟩) ?_
              (try simp only [Act.put, List.setIfInBounds_toArray, List.set_cons_zero, List.set_cons_succ])
              clear hK K
              have hLsz := hsz
              have hLE := hHE
              refine ot_two ?_ ?_
              · skip
                refine ot_do rfl (by rfl) (by rfl) (fun K hK => ?_)
                refine wp_pushN _ _ _ (by rfl) W.heap.size _ Ls (by rfl) hH.lds (x : Int) HL _ HL (by rfl) bL (by omega) hH.below.size hLsz.out ?_
                intro g2 cap2 w5 hP
                (try replace bV := bV.grown hP.2.1 (fun e => by have := hvb _ e; have := hVlo; omega))
                replace hH := hH.pushL (fun b v xs ho hb => by have := ho.lt b hb; have := hLsz.out; omega) hP
                clear hP
                refine hK.out _ _ (fun _ => ⟨hH.out.cell 0, hH.out.cell 3, HR.out _ hH.below⟩) ?_
                (try simp only [Act.put, List.setIfInBounds_toArray, List.set_cons_zero, List.set_cons_succ])
                clear hK K
                repeat (apply ot_tk rfl (by rfl) (by rfl) (by rfl); (focus (rintro wx ⟨a1, a2, a3, a4⟩; go_simp; (try with_reducible rfl))); (try simp only [Act.put, List.setIfInBounds_toArray, List.set_cons_zero, List.set_cons_succ]))
                refine ot_do rfl (by rfl) (by rfl) (fun K hK => ?_)
                go_simp
                obtain ⟨wa, HV, hHe, hwa, hBa, hsub, bV, hHB⟩ := be_alloc hH.below 2 #[.int .i64 v]
                have hsz := hide (show wa.heap.size = HV + 1 by rw [← hwa, ← hHe]; simp)
                have hHE := hide hHe
                rw [hwa, hHe]
                clear hHe
                (try replace bV := bV.all hsub)
                (try replace bL := bL.all hsub)
                clear hwa hBa hHB
                replace hH := hH.all hsub
                clear hsub
                refine hK.out _ _ (fun _ => ⟨hH.out.cell 0, hH.out.cell 3, HR.out _ hH.below⟩) ?_
                (try simp only [Act.put, List.setIfInBounds_toArray, List.set_cons_zero, List.set_cons_succ])
                clear hK K
                refine ot_do rfl (by rfl) (by rfl) (fun K hK => ?_)
                refine wp_pushN _ _ _ (by rfl) W.heap.size _ V (by rfl) hH.vals v HV _ HV (by rfl) bV (by omega) hH.below.size hsz.out ?_
                intro g3 cap3 w5 hP
                replace hH := hH.pushV (fun b v xs ho hb => by have := ho.lt b hb; have := hsz.out; omega) hP
                clear hP
                refine hK.out _ _ (fun _ => ⟨hH.out.cell 0, hH.out.cell 3, HR.out _ hH.below⟩) ?_
                (try simp only [Act.put, List.setIfInBounds_toArray, List.set_cons_zero, List.set_cons_succ])
                clear hK K
                have hst := hH.stores hgW
                have c0 := hH.out.cell 0
                have f0 := hH.out.frozen 0
                have o1 := hH.out.store 0 (.slice (some ⟨g2, 0, none⟩) (Ls.length + 1) cap2)
                have c3 := o1.cell 3
                have f3 := o1.frozen 3
                obtain ⟨w8, hw8⟩ : ∃ w8, (w5.setCell ⟨g, 0, none⟩ (.slice (some ⟨g2, 0, none⟩) (Ls.length + 1) cap2)).setCell ⟨g, 3, none⟩ (.slice (some ⟨g3, 0, none⟩) (V.length + 1) cap3) = w8 := ⟨_, rfl⟩
                rw [hw8] at hst
                have HST := hide hst
                have HW8 := hide hw8
                clear hst hH o1 hw8
                refine ot_do rfl (by rfl) (by rfl) (fun K hK => ?_)
                go_simp
                refine hK.out _ _ (fun h => absurd h (by omega)) ?_
                (try simp only [Act.put, List.setIfInBounds_toArray, List.set_cons_zero, List.set_cons_succ])
                clear hK K
                refine ot_do rfl (by rfl) (by rfl) (fun K hK => ?_)
                go_simp
                refine hK.out _ _ (fun h => absurd h (by omega)) ?_
                (try simp only [Act.put, List.setIfInBounds_toArray, List.set_cons_zero, List.set_cons_succ])
                clear hK K
                refine ot_do rfl (by rfl) (by rfl) (fun K hK => ?_)
                go_simp
                refine hK.out _ _ (fun h => absurd h (by omega)) ?_
                (try simp only [Act.put, List.setIfInBounds_toArray, List.set_cons_zero, List.set_cons_succ])
                clear hK K
                refine ot_nil ?_
                clear c0 f0 c3 f3
                rw [HW8.out]
                go_wp2_with fail
                go_roundw
                case rel => exact ⟨k + 1, cnt2, _, _, _, _, M2, by omega, by go_num, hL1, hV1, hCE, by omega, HST.out.1, HST.out.2⟩
                case measure => simp [intOf] <;> omega
              · skip
                refine ot_do rfl (by rfl) (by rfl) (fun K hK => ?_)
                go_simp
                obtain ⟨wa, HV, hHe, hwa, hBa, hsub, bV, hHB⟩ := be_alloc hH.below 2 #[.int .i64 v]
                have hsz := hide (show wa.heap.size = HV + 1 by rw [← hwa, ← hHe]; simp)
                have hHE := hide hHe
                rw [hwa, hHe]
                clear hHe
                (try replace bV := bV.all hsub)
                (try replace bL := bL.all hsub)
                clear hwa hBa hHB
                replace hH := hH.all hsub
                clear hsub
                refine hK.out _ _ (fun _ => ⟨hH.out.cell 0, hH.out.cell 3, HR.out _ hH.below⟩) ?_
                (try simp only [Act.put, List.setIfInBounds_toArray, List.set_cons_zero, List.set_cons_succ])
                clear hK K
                have hVlo : wd.heap.size ≤ HV := by have := hLE.out; have := hLsz.out; have := hHE.out; omega
                refine ot_do rfl (by rfl) (by rfl) (fun K hK => ?_)
                refine wp_pushN _ _ _ (by rfl) W.heap.size _ Ls (by rfl) hH.lds (x : Int) HL _ HV (by rfl) bL (by omega) hH.below.size hsz.out ?_
                intro g2 cap2 w5 hP
                (try replace bV := bV.grown hP.2.1 (fun e => by have := hvb _ e; have := hVlo; omega))
                replace hH := hH.pushL (fun b v xs ho hb => by have := ho.lt b hb; have := hsz.out; omega) hP
                clear hP
                refine hK.out _ _ (fun _ => ⟨hH.out.cell 0, hH.out.cell 3, HR.out _ hH.below⟩) ?_
                (try simp only [Act.put, List.setIfInBounds_toArray, List.set_cons_zero, List.set_cons_succ])
                clear hK K
                repeat (apply ot_tk rfl (by rfl) (by rfl) (by rfl); (focus (rintro wx ⟨a1, a2, a3, a4⟩; go_simp; (try with_reducible rfl))); (try simp only [Act.put, List.setIfInBounds_toArray, List.set_cons_zero, List.set_cons_succ]))
                have hw5 : ∃ N, w5.heap.size = N + 1 := ⟨w5.heap.size - 1, by have := bV.lt; omega⟩
                obtain ⟨N5, hN5⟩ := hw5
                have HN5 := hide hN5
                clear hN5
                refine ot_do rfl (by rfl) (by rfl) (fun K hK => ?_)
                refine wp_pushN _ _ _ (by rfl) W.heap.size _ V (by rfl) hH.vals v HV _ N5 (by rfl) bV (by omega) hH.below.size HN5.out ?_
                intro g3 cap3 w5 hP
                replace hH := hH.pushV (fun b v xs ho hb => by have := ho.lt b hb; have := HN5.out; omega) hP
                clear hP
                refine hK.out _ _ (fun _ => ⟨hH.out.cell 0, hH.out.cell 3, HR.out _ hH.below⟩) ?_
                (try simp only [Act.put, List.setIfInBounds_toArray, List.set_cons_zero, List.set_cons_succ])
                clear hK K
                have hst := hH.stores hgW
                have c0 := hH.out.cell 0
                have f0 := hH.out.frozen 0
                have o1 := hH.out.store 0 (.slice (some ⟨g2, 0, none⟩) (Ls.length + 1) cap2)
                have c3 := o1.cell 3
                have f3 := o1.frozen 3
                obtain ⟨w8, hw8⟩ : ∃ w8, (w5.setCell ⟨g, 0, none⟩ (.slice (some ⟨g2, 0, none⟩) (Ls.length + 1) cap2)).setCell ⟨g, 3, none⟩ (.slice (some ⟨g3, 0, none⟩) (V.length + 1) cap3) = w8 := ⟨_, rfl⟩
                rw [hw8] at hst
                have HST := hide hst
                have HW8 := hide hw8
                clear hst hH o1 hw8
                refine ot_do rfl (by rfl) (by rfl) (fun K hK => ?_)
                go_simp
                refine hK.out _ _ (fun h => absurd h (by omega)) ?_
                (try simp only [Act.put, List.setIfInBounds_toArray, List.set_cons_zero, List.set_cons_succ])
                clear hK K
                refine ot_do rfl (by rfl) (by rfl) (fun K hK => ?_)
                go_simp
                refine hK.out _ _ (fun h => absurd h (by omega)) ?_
                (try simp only [Act.put, List.setIfInBounds_toArray, List.set_cons_zero, List.set_cons_succ])
                clear hK K
                refine ot_do rfl (by rfl) (by rfl) (fun K hK => ?_)
                go_simp
                refine hK.out _ _ (fun h => absurd h (by omega)) ?_
                (try simp only [Act.put, List.setIfInBounds_toArray, List.set_cons_zero, List.set_cons_succ])
                clear hK K
                refine ot_nil ?_
                clear c0 f0 c3 f3
                rw [HW8.out]
                go_wp2_with fail
                go_roundw
                case rel => exact ⟨k + 1, cnt2, _, _, _, _, M2, by omega, by go_num, hL1, hV1, hCE, by omega, HST.out.1, HST.out.2⟩
                case measure => simp [intOf] <;> omega
            · skip
              refine ot_do rfl (by rfl) (by rfl) (fun K hK => ?_)
              go_simp
              obtain ⟨wa, HV, hHe, hwa, hBa, hsub, bV, hHB⟩ := be_alloc hH.below 2 #[.int .i64 v]
              have hsz := hide (show wa.heap.size = HV + 1 by rw [← hwa, ← hHe]; simp)
              have hHE := hide hHe
              rw [hwa, hHe]
              clear hHe
              (try replace bV := bV.all hsub)
              (try replace bL := bL.all hsub)
              clear hwa hBa hHB
              replace hH := hH.all hsub
              clear hsub
              refine hK.out _ _ (fun _ => ⟨hH.out.cell 0, hH.out.cell 3, HR.out _ hH.below⟩) ?_
              (try simp only [Act.put, List.setIfInBounds_toArray, List.set_cons_zero, List.set_cons_succ])
              clear hK K
              have hVE := hHE
              have hVsz := hsz
              refine ot_do rfl (by rfl) (by rfl) (fun K hK => ?_)
              go_simp
              obtain ⟨wa, HL, hHe, hwa, hBa, hsub, bL, hHB⟩ := be_alloc hH.below 2 #[.int .i64 (x : Int)]
              have hsz := hide (show wa.heap.size = HL + 1 by rw [← hwa, ← hHe]; simp)
              have hHE := hide hHe
              rw [hwa, hHe]
              clear hHe
              (try replace bV := bV.all hsub)
              (try replace bL := bL.all hsub)
              clear hwa hBa hHB
              replace hH := hH.all hsub
              clear hsub
              refine hK.out _ _ (fun _ => ⟨hH.out.cell 0, hH.out.cell 3, HR.out _ hH.below⟩) ?_
              (try simp only [Act.put, List.setIfInBounds_toArray, List.set_cons_zero, List.set_cons_succ])
              clear hK K
              have hVlo : wd.heap.size ≤ HV := by have := hVE.out; omega
              refine ot_do rfl (by rfl) (by rfl) (fun K hK => ?_)
              refine wp_pushN _ _ _ (by rfl) W.heap.size _ Ls (by rfl) hH.lds (x : Int) HL _ HL (by rfl) bL (by omega) hH.below.size hsz.out ?_
              intro g2 cap2 w5 hP
              (try replace bV := bV.grown hP.2.1 (fun e => by have := hvb _ e; have := hVlo; omega))
              replace hH := hH.pushL (fun b v xs ho hb => by have := ho.lt b hb; have := hsz.out; omega) hP
              clear hP
              refine hK.out _ _ (fun _ => ⟨hH.out.cell 0, hH.out.cell 3, HR.out _ hH.below⟩) ?_
              (try simp only [Act.put, List.setIfInBounds_toArray, List.set_cons_zero, List.set_cons_succ])
              clear hK K
              repeat (apply ot_tk rfl (by rfl) (by rfl) (by rfl); (focus (rintro wx ⟨a1, a2, a3, a4⟩; go_simp; (try with_reducible rfl))); (try simp only [Act.put, List.setIfInBounds_toArray, List.set_cons_zero, List.set_cons_succ]))
              have hw5 : ∃ N, w5.heap.size = N + 1 := ⟨w5.heap.size - 1, by have := bV.lt; omega⟩
              obtain ⟨N5, hN5⟩ := hw5
              have HN5 := hide hN5
              clear hN5
              refine ot_do rfl (by rfl) (by rfl) (fun K hK => ?_)
              refine wp_pushN _ _ _ (by rfl) W.heap.size _ V (by rfl) hH.vals v HV _ N5 (by rfl) bV (by omega) hH.below.size HN5.out ?_
              intro g3 cap3 w5 hP
              replace hH := hH.pushV (fun b v xs ho hb => by have := ho.lt b hb; have := HN5.out; omega) hP
              clear hP
              refine hK.out _ _ (fun _ => ⟨hH.out.cell 0, hH.out.cell 3, HR.out _ hH.below⟩) ?_
              (try simp only [Act.put, List.setIfInBounds_toArray, List.set_cons_zero, List.set_cons_succ])
              clear hK K
              have hst := hH.stores hgW
              have c0 := hH.out.cell 0
              have f0 := hH.out.frozen 0
              have o1 := hH.out.store 0 (.slice (some ⟨g2, 0, none⟩) (Ls.length + 1) cap2)
              have c3 := o1.cell 3
              have f3 := o1.frozen 3
              obtain ⟨w8, hw8⟩ : ∃ w8, (w5.setCell ⟨g, 0, none⟩ (.slice (some ⟨g2, 0, none⟩) (Ls.length + 1) cap2)).setCell ⟨g, 3, none⟩ (.slice (some ⟨g3, 0, none⟩) (V.length + 1) cap3) = w8 := ⟨_, rfl⟩
              rw [hw8] at hst
              have HST := hide hst
              have HW8 := hide hw8
              clear hst hH o1 hw8
              refine ot_do rfl (by rfl) (by rfl) (fun K hK => ?_)
              go_simp
              refine hK.out _ _ (fun h => absurd h (by omega)) ?_
              (try simp only [Act.put, List.setIfInBounds_toArray, List.set_cons_zero, List.set_cons_succ])
              clear hK K
              refine ot_do rfl (by rfl) (by rfl) (fun K hK => ?_)
              go_simp
              refine hK.out _ _ (fun h => absurd h (by omega)) ?_
              (try simp only [Act.put, List.setIfInBounds_toArray, List.set_cons_zero, List.set_cons_succ])
              clear hK K
              refine ot_do rfl (by rfl) (by rfl) (fun K hK => ?_)
              go_simp
              refine hK.out _ _ (fun h => absurd h (by omega)) ?_
              (try simp only [Act.put, List.setIfInBounds_toArray, List.set_cons_zero, List.set_cons_succ])
              clear hK K
              refine ot_nil ?_
              clear c0 f0 c3 f3
              rw [HW8.out]
              go_wp2_with fail
              go_roundw
              case rel => exact ⟨k + 1, cnt2, _, _, _, _, M2, by omega, by go_num, hL1, hV1, hCE, by omega, HST.out.1, HST.out.2⟩
              case measure => simp [intOf] <;> omega
      · have hhas : Maps.has M (.int .i64 (x : Int)) = true := hcx.2 (hMet.2 hex)
        have hFF := hide (show Ls = ldL os xs O (k + 1) by rw [hF.out hex]; exact hLs.out)
        have hCF := hide (show Cov M (prodL os) (CovK os xs O (k + 1)) (fun y => idxF Ls (ldr os xs y)) from hCov.out.imp (fun y _ _ => hcF hex y) (fun _ _ _ _ => rfl))
        clear hT hF hMet hcF hcT hcx hex
        go_wp2_with (at_lookup; refine wpList_lookup_own_ok_int _ rfl _ _ 133 rfl 2 2 .i64 law64 Try.underlying133 Try.underlying2 (zero64 _) m cnt M rfl hM _ _ rfl (key64 hkx) ?_; intro c9 hat hwc; rw [hhas])
        go_roundw
        case rel => exact ⟨k + 1, cnt, vL, vV, Ls, V, M, by omega, by go_num, hFF, hVs, hCF, by omega, hI, hM⟩
        case measure => simp [intOf] <;> omega
    · obtain rfl : k = O.length := by omega
      obtain ⟨W2, rfl⟩ : ∃ W2, W2 = wr := ⟨_, rfl⟩
      have hLr := fun x hx => HC.out.lrng HOe.out (k := O.length) x hx
      have HQ2 := HQ.out
      rw [← hLs.out] at hLr HQ2
      have HLr := hide hLr
      have HQ2 := hide HQ2
      have HAT := hide (show ∀ x ∈ Ls, ∀ y ∈ Ls, ∀ c, M.atKey (.int .i64 (Ar os x y)) (.lit (.int .i64 0)) = .lit (.int .i64 c) → idxF Ls (ldr os xs (Ar os x y)) = c from fun x hx y hy c hc => by
        have hm := HC.out.addO HOe.out (hLr x hx).1 (hLr y hy).1
        have hr := Ar_rng hG x y
        have h9 := (hCov.out _ hr.1 hr.2).2 (HC.out.covEnd HOe.out hm)
        rw [h9] at hc
        simpa using hc)
      have hne := ow_ne hI.lds hI.out (by decide)
      have hneV := ow_ne hI.vals hI.out (by decide)
      have hmg := hM.ne hI.out
      have hQ0 : QTb W2 g vL vV D (.slice none 0 0) [] W2 := ⟨hI.out, Grow.nil _, Wr.refl _ _, hI.out.lt⟩
      obtain ⟨AL, cL, rfl⟩ := hI.lds.val
      obtain ⟨AV, cV, rfl⟩ := hI.vals.val
      have HI2 := hide hI
      have HM2 := hide hM
      have hWW2 := hI.below.size
      clear hI hLr hM
      have hL16 : Ls.length ≤ 16 := by omega
      have o0 := hQ0.out.cell 0
      go_wp2_with fail
      clear o0
      go_loopw [72] (fun i wx => ∃ (k : Nat) (vT : Value) (T : List (List Int)), k ≤ Ls.length ∧ i = .int .i64 k ∧ Hid (T = (ctab os xs Ls).take k) ∧ QTb W2 g (.slice AL Ls.length cL) (.slice AV V.length cV) D vT T wx) (fun i _ => Ls.length - (intOf i).toNat)
      case atStart => exact ⟨0, _, [], by omega, rfl, hide (by simp), hQ0⟩
      case round =>
        clear hQ0
        obtain ⟨k, vT, T, hk, rfl, hTk, hQ⟩ := hrel
        obtain ⟨w3, rfl⟩ : ∃ w3, w3 = wr := ⟨_, rfl⟩
        have hB3 : Below W.heap.size W w3 := HI2.out.below.trans (hQ.kept.below (fun b hb => by omega) hWW2)
        have hW3 := hQ.kept.size
        have g0 := hQ.out.cell 0
        have hgl := hQ.out.lt
        have hOL : Ow w3 W.heap.size (.slice AL Ls.length cL) Ls := hQ.kept.own HI2.out.lds (fun b e hb => hne (by rw [e, hb]))
        have hM3 : Mp w3 m cnt M := by
          have hlt := HM2.out.lt
          obtain ⟨es, clock, h1, r⟩ := HM2.out
          exact ⟨es, clock, (hQ.kept.block m hlt hmg).trans h1, r⟩
        by_cases hlk : k < Ls.length
        · obtain ⟨hxO, hx0, hx1⟩ := HLr.out _ (gi_mem hlk)
          have hATk := fun y hy => HAT.out _ (gi_mem hlk) y hy
          obtain ⟨x, ex⟩ : ∃ x, gi Ls k = x := ⟨_, rfl⟩
          rw [ex] at hxO hx0 hx1 hATk
          have HATk := hide hATk
          clear hATk
          have hsL := (hOL.sl (fun v hv => by have := HLr.out v hv; exact ⟨by omega, by omega⟩))
          obtain ⟨_, _, e9, sL⟩ := hsL
          injection e9 with e91 _ e92
          subst e91
          subst e92
          obtain ⟨bl, ol, rfl, hbl, hcl⟩ := sL.at_ (by omega)
          have cx := hcl k hlk
          rw [ex] at cx
          have HCL := hide hcl
          clear hcl
          obtain ⟨row, hrow⟩ : ∃ row, Ls.map (fun y => idxF Ls (ldr os xs (Ar os x y))) = row := ⟨_, rfl⟩
          have hrl : row.length = Ls.length := by rw [← hrow]; simp
          have hTk1 := hide (show T ++ [row] = (ctab os xs Ls).take (k + 1) by
            have hgk : (ctab os xs Ls)[k]? = some row := by unfold ctab; rw [List.getElem?_map, gi_get hlk, ex, ← hrow]; rfl
            rw [hTk.out, List.take_add_one, hgk]; rfl)
          have hrj := hide (show ∀ j, j < Ls.length → row.take (j + 1) = row.take j ++ [idxF Ls (ldr os xs (Ar os x (gi Ls j)))] from fun j hj => by
            have hgj : row[j]? = some (idxF Ls (ldr os xs (Ar os x (gi Ls j)))) := by rw [← hrow, List.getElem?_map, gi_get hj]; rfl
            rw [List.take_add_one, hgj]; rfl)
          have hrR := hide (show ∀ v ∈ row, i64ok v by
            rw [← hrow]
            intro v hv
            obtain ⟨y, _, rfl⟩ := List.mem_map.1 hv
            have := idxF_lt Ls (ldr os xs (Ar os x y))
            exact ⟨by omega, by omega⟩)
          have hTl : T.length ≤ k := by rw [hTk.out]; simp; omega
          have hrl' := hide hrl
          clear hrow hrl ex
          have hOz : Ow (w3.alloc (.cells #[] 2)) w3.heap.size (.slice (some ⟨w3.heap.size, 0, none⟩) 0 0) (row.take 0) := Ow.made' (xs := []) w3 #[] w3.heap.size 0 rfl rfl (Nat.le_refl _) rfl (by unfold maxLen; omega)
          have hBz : Below w3.heap.size w3 (w3.alloc (.cells #[] 2)) := (Below.refl _ _).alloc (Nat.le_refl _) _
          go_wp2_with fail
          go_loopw [15, 80] (fun r i wx => ∃ (j : Nat) (vr : Value), j ≤ Ls.length ∧ vr = r ∧ i = .int .i64 j ∧ Ow wx w3.heap.size vr (row.take j) ∧ Below w3.heap.size w3 wx) (fun _ i _ => Ls.length - (intOf i).toNat)
          case atStart => exact ⟨0, _, by omega, rfl, rfl, hOz, hBz⟩
          case round =>
            clear hOz hBz
            obtain ⟨j, vr, hj, rfl, rfl, hO, hBe⟩ := hrel
            have h3s := hBe.size
            by_cases hlj : j < Ls.length
            · have cy := (hBe.cell (p := ⟨bl, ol + j, none⟩) hbl).trans (HCL.out j hlj)
              obtain ⟨hyO, hy0, hy1⟩ := HLr.out _ (gi_mem hlj)
              have hAT := HATk.out _ (gi_mem hlj)
              have hrj1 := hide (hrj.out j hlj)
              have hjl : (row.take j).length = j := by rw [List.length_take, hrl'.out]; omega
              obtain ⟨y, ey⟩ : ∃ y, gi Ls j = y := ⟨_, rfl⟩
              rw [ey] at cy hy0 hy1 hrj1 hAT
              clear ey
              have hpl := plus_any wr (.int .i64 D) (.slice A' vs.length c') A n c os x y (hsl _ (hB3.trans (hBe.mono hB3.size))) hG hx0 (by omega) hy0 (by omega)
              have hs9 := Ar_rng hG x y
              obtain ⟨s, es⟩ : ∃ s, Ar os x y = s := ⟨_, rfl⟩
              rw [es] at hpl hs9 hrj1 hAT
              clear es
              obtain ⟨v, ev⟩ : ∃ v, idxF Ls (ldr os xs s) = v := ⟨_, rfl⟩
              rw [ev] at hrj1 hAT
              have HV9 := hide hAT
              clear ev hAT
              have hBW3 := hB3.trans (hBe.mono hB3.size)
              have p0 := (hBW3.cell (p := ⟨w.heap.size, 0, none⟩) hszW).trans q0
              have p1 := (hBW3.cell (p := ⟨w.heap.size, 1, none⟩) hszW).trans q1
              have p2 := (hBW3.cell (p := ⟨w.heap.size, 2, none⟩) hszW).trans q2
              have hs64 : i64ok s := ⟨by omega, by omega⟩
              clear hBW3
              go_wp2_with fail
              clear p0 p1 p2 cy
              refine hpl.mono ?_
              rintro e w4 ⟨rfl, hb4⟩
              have hO4 := hO.below hb4
              have hBe4 := hBe.trans (hb4.mono hBe.size)
              have hM4 := hM3.below hBe4
              have h4s := hBe4.size
              clear hO hBe hb4 hpl
              go_wp2_with (first
                | (at_lookup; refine wpList_lookup_own_int _ rfl _ _ 133 rfl 2 2 .i64 law64 Try.underlying133 Try.underlying2 (zero64 _) m cnt M rfl hM4 _ _ rfl (key64 hs64) ?_; intro c9 hat hwc; obtain rfl := HV9.out _ hat)
                | (at_builtin; refine list_push _ rfl _ _ rfl w3.heap.size _ _ rfl (hO4.alloc _) v w4.heap.size _ rfl (Blk.new _ _ _) (by omega) (by simp; omega) (by simp) ?_; intro g5 cap5 w5 hP)
                | go_in)
              have hB5 := (hBe4.alloc hBe4.size _).trans (hP.below (hO4.alloc _) (by simp; omega))
              have hO5 := hP.own
              rw [← hrj1.out, hjl] at hO5
              clear hP hO4 hBe4
              go_roundw
              case rel => exact ⟨j + 1, _, by omega, rfl, by go_num, hO5, hB5⟩
              case measure => simp [intOf] <;> omega
            · obtain rfl : j = Ls.length := by omega
              have hO9 := hO
              rw [List.take_of_length_le (by rw [hrl'.out]; exact Nat.le_refl _)] at hO9
              clear hO
              obtain ⟨Ar', cr, rfl⟩ := hO9.val
              have hRow := E1.of_ow hO9 hrR.out
              rw [hrl'.out] at hRow
              obtain ⟨w6, rfl⟩ : ∃ w6, w6 = wr := ⟨_, rfl⟩
              have hbw : Below w6.heap.size w6 (w6.alloc (.cells #[.slice Ar' Ls.length cr] 22)) := (Below.refl _ _).alloc (Nat.le_refl _) _
              have hRow6 := E1.below hRow hbw
              have h31 := (hBe.cell (p := ⟨g, 1, none⟩) hgl).trans (hQ.out.cell 1)
              have f31 := (hBe.frozen (p := ⟨g, 1, none⟩) hgl).trans (hQ.out.frozen 1)
              have hB39 := hBe.trans (hbw.mono hBe.size)
              have hgW2 := hQ.lt
              have hg6 : g < w6.heap.size := Nat.lt_of_lt_of_le hgl hBe.size
              obtain ⟨At, ct, rfl⟩ := hQ.tab.val
              have hQ6 := hide (hQ.bel hB39)
              have hGr := hQ.tab
              clear hQ hRow hO9
              rw [hrl'.out]
              go_wp2_with (at_builtin; refine list_pushG kp1 38 22 _ 24 Try.underlying38 rows_info (by omega) rfl _ rfl _ _ rfl W2.heap.size (.slice At T.length ct) T rfl w3 hGr hB39 (.slice Ar' Ls.length cr) row _ hRow6 (fun b hb => ⟨hb.1, by have := hb.2; simp; omega⟩) rfl w6.heap.size _ rfl (Blk.new _ _ _) (by omega) hW3 (by simp) ?_; intro g' cap' w7 hG7 hB7 hW7 hg7 hg8; have t2 := (hB7.cell (p := ⟨g, 1, none⟩) hgW2).trans ((hbw.cell (p := ⟨g, 1, none⟩) hg6).trans h31); have t3 := (hB7.frozen (p := ⟨g, 1, none⟩) hgW2).trans ((hbw.frozen (p := ⟨g, 1, none⟩) hg6).trans f31))
              have hN := hQ6.out.next hB7 hG7
              go_roundw
              case rel => exact ⟨k + 1, _, _, by omega, by go_num, hTk1, hN⟩
              case measure => simp [intOf] <;> omega
        · obtain rfl : k = Ls.length := by omega
          have hTe : T = ctab os xs Ls := by rw [hTk.out, List.take_of_length_le]; unfold ctab; simp
          obtain ⟨At, ct, rfl⟩ := hQ.tab.val
          have bR3 : Blk w3 (w.heap.size + 1) 40 #[.slice none 0 0, .slice none 0 0, .int .i64 0, .slice none 0 0] := hQ.kept.blk (bR.all HI2.out.below) (by have := hsW.out; omega)
          have x0 := hQ.out.cell 0
          have x1 := hQ.out.cell 1
          have x2 := hQ.out.cell 2
          have x3 := hQ.out.cell 3
          have z0 := bR3.frozen 0
          have z1 := bR3.frozen 1
          have z2 := bR3.frozen 2
          have z3 := bR3.frozen 3
          have y0 := bR3.cell 0
          have y1 := bR3.cell 1
          have y2 := bR3.cell 2
          have y3 := bR3.cell 3
          have hb4 := put4_blk (x := .slice AL Ls.length cL) (y := .slice At T.length ct) (z := .int .i64 D) (u := .slice AV V.length cV) bR3
          have p0 := hb4.cell 0
          have p1 := hb4.cell 1
          have p2 := hb4.cell 2
          have p3 := hb4.cell 3
          unfold put4 put3 at p0 p1 p2 p3
          have hVr := hide (show ∀ v ∈ V, i64ok v by
            rw [hVs.out]
            intro v hv
            obtain ⟨y, hy, rfl⟩ := List.mem_map.1 hv
            have h1 := HLr.out y hy
            have := hok.out.vl (k := y.toNat) (by omega)
            have := hok.out.d2
            unfold Vl
            exact ⟨by omega, by omega⟩)
          have hLo := hide (show ∀ v ∈ Ls, i64ok v from fun v hv => by have := HLr.out v hv; exact ⟨by omega, by omega⟩)
          have hfin := hide (hQ.fin (r := w.heap.size + 1) (B := W.heap.size) (hbW.trans (HI2.out.below.mono (Nat.le_of_lt hszW))) (by omega) (by have := hsW.out; omega) hWW2 (Nat.le_of_lt hszW) (by omega) HI2.out.lds HI2.out.vals HI2.out.aL hLo.out hVr.out hne hneV)
          have HTE := hide hTe
          clear hTe hQ bR3 hb4 hM3
          go_wp2_with fail
          refine bodyPost_ret (v := .agg #[.slice AL Ls.length cL, .slice At T.length ct, .int .i64 D, .slice AV V.length cV]) (by simp [results, Try.results92, go_sem, p0, p1, p2, p3]) rfl ?_
          have h9 := hfin.out
          rw [HQ2.out, ← HTE.out, ← hVs.out]
          exact h9
end Go.Proofs.Ytneflhachjlmkaa
