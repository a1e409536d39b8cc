
/- The walk of l10From. -/
import Derived.Test.YtonehmjoolflfaaGreatDoorFA
import Derived.Test.YtonehmjoolflfaaGreatDoorC2
import Derived.Test.YtonehmjoolflfaaGreatDoorLa
import Derived.Test.YtonehmjoolflfaaGreatDoorSa
import Derived.WalkLawsBesides
namespace Go.Proofs.YtonehmjoolflfaaGreatDoor
open Go Go.RowKit Grp
set_option linter.unusedSimpArgs false
set_option linter.unusedVariables false

/-- The values that squares and products tell. -/
def fromL (os : List Int) (D : Int) (sq pr : List Int) (k : Nat) : List Int := (List.range k).map fun (x : Nat) => fA (Dg os x) sq pr % D
theorem fromL_snoc (os : List Int) (D : Int) (sq pr : List Int) (k : Nat) : fromL os D sq pr (k + 1) = fromL os D sq pr k ++ [fA (Dg os k) sq pr % D] := by simp [fromL, List.range_succ]
theorem fromL_len (os : List Int) (D : Int) (sq pr : List Int) (k : Nat) : (fromL os D sq pr k).length = k := by simp [fromL]
theorem em_add (a b D : Int) : (a % D + b) % D = (a + b) % D := Int.emod_add_emod a D b
theorem em_go {a b c F D : Int} (h : (a + (b + c)) % D = F) : ((a + b) % D + c) % D = F := by rw [em_add, Int.add_assoc]; exact h
theorem rowF_drop {t : Int} {tu pr : List Int} {k e : Nat} (hk : k < tu.length) (he : e < pr.length) : rowF t (tu.drop k) (pr.drop e) = gi pr e * t * gi tu k + rowF t (tu.drop (k + 1)) (pr.drop (e + 1)) := by
  rw [drop_gi hk, drop_gi he]; rfl
theorem gi_all {p : Int → Prop} {xs : List Int} (h : ∀ k, k < xs.length → p (gi xs k)) : ∀ x ∈ xs, p x := fun x hx => by
  obtain ⟨k, hk, rfl⟩ := List.mem_iff_getElem.1 hx
  have := h k hk
  simpa [gi, List.getD_eq_getElem?_getD, hk] using this

set_option maxRecDepth 100000 in
set_option maxHeartbeats 8000000 in
theorem l10From_any (w : World) (A : Option Addr) (n c : Nat) (os : List Int) (D : Int) (A' : Option Addr) (n' c' : Nat) (sq : List Int) (A'' : Option Addr) (n'' c'' : Nat) (pr : List Int)
    (h : Sl w w.heap.size A n c os) (h' : Sl w w.heap.size A' n' c' sq) (h'' : Sl w w.heap.size A'' n'' c'' pr) (hG : OkG os) (hD1 : 1 ≤ D) (hD2 : D ≤ 55440) (hq : sq.length = os.length) (hp : pr.length = tri os.length)
    (hs : ∀ v ∈ sq, 0 ≤ v ∧ v ≤ 55440) (hr : ∀ v ∈ pr, 0 ≤ v ∧ v ≤ 55440) (N : Nat) (hN : prodL os = N) :
    Calls Tryz.prog 86 #[.slice A n c, .int .i64 D, .slice A' n' c', .slice A'' n'' c''] w (MkM1 w os D (fromL os D sq pr N)) := by
  obtain rfl := h.len
  obtain rfl := h'.len
  obtain rfl := h''.len
  have h4 := hG.l4
  have hp16 := hG.p16
  have HS := hide hs
  have HRR := hide hr
  have HQ := hide hq
  have HP := hide hp
  have HN := hide hN
  have hN16 : N ≤ 16 := by omega
  have ht6 := tri_le _ h4
  have hpl : pr.length ≤ 6 := by omega
  have hql : sq.length ≤ 4 := by omega
  have HT0 := hide (show ∀ x : Nat, ∀ k, k < os.length → 0 ≤ gi (Dg os x) k ∧ gi (Dg os x) k ≤ 16 from fun x k hk => by
    have := Dg_rng hG (x := (x : Int)) (by omega) hk
    have := hG.m16 _ (gi_mem hk)
    omega)
  clear hs hr hq hp hN
  go_enter Tryz.func86, Tryz.ntmps86
  go_wp2_with fail
  obtain ⟨W, hW⟩ : ∃ W, w.alloc (.cells #[.slice none 0 0, .int .i64 0, .slice none 0 0] 26) = W := ⟨_, rfl⟩
  have hbW : Below w.heap.size w W := by rw [← hW]; exact (by repeat (first | assumption | exact Below.refl _ _ | apply below_drewN | apply Below.drew | apply Below.alloc | apply Below.setCell | omega | (focus (simp; done)) | (focus (simp; omega))))
  have hszW : w.heap.size < W.heap.size := by rw [← hW]; simp
  have bR : Blk W w.heap.size 26 #[.slice none 0 0, .int .i64 0, .slice none 0 0] := by rw [← hW]; exact Blk.new _ _ _
  rw [hW]
  clear hW
  have gs := h.below hbW
  have gs' := h'.below hbW
  have gs'' := h''.below hbW
  refine (l01Own_any _ _ _ _ _ _ gs (Nat.le_of_lt hszW) (by omega)).mono ?_
  rintro e w2 ⟨v, rfl, hO, hb2⟩
  obtain ⟨Av, cv, rfl⟩ := hO.val
  have hBe : Below W.heap.size W w2 := hb2
  obtain ⟨w3, g, hg, hw3, hB3, hsub, bO, hgB⟩ := be_alloc hBe 26 #[.slice none 0 0, .int .i64 0, .slice none 0 0]
  replace hO := hO.below hsub
  replace bR := bR.all hB3
  replace hO := hO.less (show W.heap.size ≤ _ from Nat.le_refl _)
  have hI : MetIn W W.heap.size w.heap.size g (.slice Av os.length cv) os D (.slice none 0 0) [] (put3 w3 g (.slice Av os.length cv) (.int .i64 D) (.slice none 0 0)) := ⟨put3_far bR (by omega), put3_own bO (by decide) hO, put3_blk bO, Ow.nil _ _, fun b hb => by simp [Value.ownBlock], put3_below hB3 hgB⟩
  have r0 := bO.cell 0
  have r1 := bO.cell 1
  have r2 := bO.cell 2
  have f0 := bO.frozen 0
  have f1 := bO.frozen 1
  have f2 := bO.frozen 2
  have hRs := hide (show w.heap.size < g by omega)
  have hF0 := hide (show fromL os D sq pr 0 = [] from rfl)
  clear hB3 hsub bO hb2 hBe hO bR
  obtain ⟨W3, hW3⟩ : ∃ W3, put3 w3 g (.slice Av os.length cv) (.int .i64 D) (.slice none 0 0) = W3 := ⟨_, rfl⟩
  unfold put3 at hW3 hI
  rw [hW3] at hI
  go_wp2_with fail
  clear hw3 hg hW3 r0 r1 r2 f0 f1 f2
  go_loopw [10] (fun x wr => ∃ (k : Nat) (vv : Value), k ≤ N ∧ x = .int .i64 k ∧ MetIn W W.heap.size w.heap.size g (.slice Av os.length cv) os D vv (fromL os D sq pr k) wr) (fun x _ => N - (intOf x).toNat)
  case atStart => exact ⟨0, _, by omega, rfl, by rw [hF0.out]; exact hI⟩
  case round =>
    clear hI
    obtain ⟨k, vv, hk, rfl, hI⟩ := hrel
    have hwz := hI.below.size
    go_wp2_with fail
    refine (l10Size_any _ _ _ _ _ _ (gs.below (hI.below.mono (Nat.le_of_lt hszW))) hG).mono ?_
    rw [HN.out]
    rintro e w4 ⟨rfl, m, hm⟩
    replace hI := hI.drewN m
    rw [← hm] at hI
    clear hm
    have hwz := hI.below.size
    by_cases hlt : k < N
    · have g4 := gs.below (hI.below.mono (Nat.le_of_lt hszW))
      go_wp2_with fail
      refine (l10Digits_any _ w.heap.size _ _ _ _ _ g4 (by omega) hG (by omega) (by omega)).mono ?_
      rintro e w5 ⟨v, rfl, hO5, hb5⟩
      replace hI := hI.all hb5 hwz
      replace hwz := hI.below.size
      have hOk := HT0.out k
      obtain ⟨A5, c5, rfl, gt⟩ := hO5.sl (gi_all fun j hj => by rw [Dg_length] at hj; obtain ⟨q0, q1⟩ := hOk j hj; exact ⟨by omega, by omega⟩)
      have gq := gs'.below (hI.below.mono (Nat.le_of_lt hszW))
      have gp := gs''.below (hI.below.mono (Nat.le_of_lt hszW))
      have hFs := hide (fromL_snoc os D sq pr k)
      have htl := Dg_length os (k : Int)
      rw [htl] at gt
      rw [htl]
      obtain ⟨tu, htu⟩ : ∃ tu, Dg os (k : Int) = tu := ⟨_, rfl⟩
      rw [htu] at gt htl hOk hFs
      have HTL := hide htl
      have HOK := hide hOk
      obtain ⟨F, hF⟩ : ∃ F, fA tu sq pr % D = F := ⟨_, rfl⟩
      rw [hF] at hFs
      have HF := hide hF
      clear htl htu hOk hF hO5 hb5 g4
      obtain ⟨xs, hxs⟩ : ∃ xs, fromL os D sq pr k = xs := ⟨_, rfl⟩
      have hlen : xs.length = k := by rw [← hxs, fromL_len]
      rw [hxs] at hI hFs
      have HL := hide hlen
      clear hxs hlen
      go_wp2_with fail
      go_loopw [12, 14] (fun s i wr => ∃ (i0 : Nat) (V : Int), i0 ≤ os.length ∧ i = .int .i64 i0 ∧ s = .int .i64 V ∧ 0 ≤ V ∧ V < D ∧ V = fS (tu.take i0) sq % D ∧ Dr w5 wr) (fun _ i _ => os.length - (intOf i).toNat)
      case atStart => exact ⟨0, 0, by omega, rfl, rfl, by omega, by omega, by simp [fS], Dr.refl _⟩
      case round =>
        obtain ⟨i0, V, hi0, rfl, rfl, hV0, hV1, hV, hDr⟩ := hrel
        have HV := hide hV
        clear hV
        by_cases hlt1 : i0 < os.length
        · obtain ⟨b, off, rfl, hb, hc⟩ := gt.at_ (by omega)
          have hlq : i0 < sq.length := by rw [HQ.out]; exact hlt1
          obtain ⟨b', off', rfl, hb', hc'⟩ := gq.at_ (by omega)
          have c1 := hc i0 hlt1
          have c2 := hc' i0 hlq
          clear hc hc'
          obtain ⟨t0, t1⟩ := HOK.out i0 hlt1
          obtain ⟨s0, s1⟩ := HS.out _ (gi_mem hlq)
          have hfs := hide (fS_snoc tu sq i0 (by rw [HTL.out]; exact hlt1) hlq)
          obtain ⟨t, et⟩ : ∃ t, gi tu i0 = t := ⟨_, rfl⟩
          obtain ⟨s, es⟩ : ∃ s, gi sq i0 = s := ⟨_, rfl⟩
          rw [et] at c1 t0 t1 hfs
          rw [es] at c2 s0 s1 hfs
          clear et es
          obtain ⟨g1, g2, g3, g4⟩ := term_bd s0 s1 t0 t1 t0 t1
          obtain ⟨u, eu⟩ : ∃ u, s * t = u := ⟨_, rfl⟩
          rw [eu] at g1 g2 g3 g4 hfs
          have w1 : IntKind.i64.wrap (s * t) = u := by rw [eu]; exact wrap_in (by omega) (by omega)
          obtain ⟨P, eP⟩ : ∃ P, u * t = P := ⟨_, rfl⟩
          rw [eP] at g3 g4 hfs
          have w2 : IntKind.i64.wrap (u * t) = P := by rw [eP]; exact wrap_in (by omega) (by omega)
          clear eu eP
          have w3' : IntKind.i64.wrap (V + P) = V + P := wrap_in (by omega) (by omega)
          have w4' : (V + P).tmod D = (V + P) % D := Int.tmod_eq_emod_of_nonneg (by omega)
          have hm0 := Int.emod_nonneg (V + P) (show D ≠ 0 by omega)
          have hm1 := Int.emod_lt_of_pos (V + P) (show 0 < D by omega)
          have hE := hide (show (V + P) % D = fS (tu.take (i0 + 1)) sq % D by rw [hfs.out, HV.out, em_add])
          obtain ⟨Y, hY⟩ : ∃ Y, (V + P) % D = Y := ⟨_, rfl⟩
          rw [hY] at w4' hm0 hm1 hE
          clear hY
          have t3 : ¬ D = 0 := by omega
          have q1 : (i0 : Int) < (os.length : Int) := by omega
          have q2 : (i0 : Int) < (sq.length : Int) := by omega
          go_wp2_with fail
          refine wp_region_dr [0, 1, 2, 3, 4, 5, 6, 7, 8, 9, 10, 11, 12, 13, 14, 15, 16, 17, 18] 18 w5 (by kernel_rfl) (by kernel_rfl) (by kernel_rfl) (fun _ _ _ _ _ h => h) hDr (fun wd hDr => ?_)
          repeat (first | (apply ord_tk rfl (by rfl) (by rfl) (by rfl); (focus (rintro w ⟨dm, rfl⟩; go_simp; (try with_reducible rfl))); (try simp only [Act.put, List.setIfInBounds_toArray, List.set_cons_zero, List.set_cons_succ])) | (apply ord_skip rfl (by rfl) (by rfl) (fun _ => hDr); (try simp only [Act.put, List.setIfInBounds_toArray, List.set_cons_zero, List.set_cons_succ])))
          refine ord_do rfl (by rfl) (by rfl) (fun K hK => ?_)
          go_simp
          refine hK.out _ _ (fun h => absurd h (by omega)) ?_
          (try simp only [Act.put, List.setIfInBounds_toArray, List.set_cons_zero, List.set_cons_succ])
          clear hK K
          refine ord_nil ?_
          go_wp2_with fail
          go_roundw
          case rel => exact ⟨i0 + 1, Y, by omega, by go_num, rfl, hm0, hm1, hE.out, hDr⟩
          case measure => simp [intOf] <;> omega
        · obtain rfl : i0 = os.length := by omega
          obtain ⟨T, hT⟩ : ∃ T, tri os.length = T := ⟨_, rfl⟩
          have HT := hide hT
          have HPT := hide (show pr.length = T by rw [HP.out, hT])
          have htr : T ≤ 6 := by rw [← hT]; exact tri_le _ h4
          have hfin := hide (show (V + fP (tu.drop 0) (pr.drop 0)) % D = F by rw [HV.out, em_add, List.take_of_length_le (by rw [HTL.out]; omega), List.drop_zero, List.drop_zero, ← HF.out]; rfl)
          clear hT
          go_wp2_with fail
          go_loopw [12, 13, 15] (fun s a i wr => ∃ (i0 q : Nat) (V : Int), i0 ≤ os.length ∧ i = .int .i64 i0 ∧ a = .int .i64 q ∧ s = .int .i64 V ∧ 0 ≤ V ∧ V < D ∧ q + tri (os.length - i0) = T ∧ (V + fP (tu.drop i0) (pr.drop q)) % D = F ∧ Dr w5 wr) (fun _ _ i _ => os.length - (intOf i).toNat)
          case atStart => exact ⟨0, 0, V, by omega, rfl, rfl, rfl, hV0, hV1, by rw [Nat.sub_zero, HT.out, Nat.zero_add], hfin.out, hDr⟩
          case round =>
            clear hDr hV0 hV1 hfin HV
            obtain ⟨i0, q, V, hi0, rfl, rfl, rfl, hV0, hV1, hq, hf, hDr⟩ := hrel
            have HFF := hide hf
            have HQQ := hide hq
            have hqT : q ≤ T := by omega
            clear hf hq
            by_cases hlt1 : i0 < os.length
            · obtain ⟨b, off, rfl, hb, hc⟩ := gt.at_ (by omega)
              have c1 := hc i0 hlt1
              have hcH := hide hc
              clear hc
              obtain ⟨t0, t1⟩ := HOK.out i0 hlt1
              have hfp := hide (fP_drop (pr := pr.drop q) (show i0 < tu.length by rw [HTL.out]; exact hlt1))
              have htd := tri_drop hlt1
              obtain ⟨r, hr⟩ : ∃ r, os.length - (i0 + 1) = r := ⟨_, rfl⟩
              have HLD := hide (show (tu.drop (i0 + 1)).length = r by rw [List.length_drop, HTL.out, hr])
              have HQ2 := hide (show q + r + tri (os.length - (i0 + 1)) = T by have := HQQ.out; rw [hr] at htd ⊢; omega)
              have hqr : q + r ≤ T := by have := HQ2.out; omega
              rw [HLD.out, List.drop_drop] at hfp
              obtain ⟨t, et⟩ : ∃ t, gi tu i0 = t := ⟨_, rfl⟩
              rw [et] at c1 t0 t1 hfp
              obtain ⟨R, hR⟩ : ∃ R, fP (tu.drop (i0 + 1)) (pr.drop (q + r)) = R := ⟨_, rfl⟩
              rw [hR] at hfp
              have HR := hide hR
              have hst := hide (show (V + (rowF t (tu.drop (i0 + 1)) (pr.drop q) + R)) % D = F by rw [← hfp.out]; exact HFF.out)
              have hrr : i0 + 1 + r = os.length := by omega
              clear et hR hr htd
              go_wp2_with fail
              go_loopw [12, 13, 16] (fun s a i wr => ∃ (κ e : Nat) (V : Int), i0 + 1 ≤ κ ∧ κ ≤ os.length ∧ i = .int .i64 κ ∧ a = .int .i64 e ∧ s = .int .i64 V ∧ 0 ≤ V ∧ V < D ∧ e + os.length = q + r + κ ∧ (V + (rowF t (tu.drop κ) (pr.drop e) + R)) % D = F ∧ Dr w5 wr) (fun _ _ i _ => os.length - (intOf i).toNat)
              case atStart => exact ⟨i0 + 1, q, V, by omega, by omega, by go_num, rfl, rfl, hV0, hV1, by omega, hst.out, hDr⟩
              case round =>
                clear hDr hV0 hV1 hst HFF
                obtain ⟨κ, e, V, hκ0, hκ, rfl, rfl, rfl, hV0, hV1, he, hf, hDr⟩ := hrel
                have HFF := hide hf
                clear hf
                by_cases hlk : κ < os.length
                · have c2 := hcH.out κ hlk
                  obtain ⟨b', off', rfl, hb', hc'⟩ := gp.at_ (by have := HPT.out; omega)
                  have hlp : e < pr.length := by rw [HPT.out]; omega
                  have c3 := hc' e hlp
                  clear hc'
                  obtain ⟨y0, y1⟩ := HOK.out κ hlk
                  obtain ⟨p0, p1⟩ := HRR.out _ (gi_mem hlp)
                  have hrs := hide (rowF_drop (t := t) (show κ < tu.length by rw [HTL.out]; exact hlk) hlp)
                  obtain ⟨y, ey⟩ : ∃ y, gi tu κ = y := ⟨_, rfl⟩
                  obtain ⟨p, ep⟩ : ∃ p, gi pr e = p := ⟨_, rfl⟩
                  rw [ey] at c2 y0 y1 hrs
                  rw [ep] at c3 p0 p1 hrs
                  clear ey ep
                  obtain ⟨g1, g2, g3, g4⟩ := term_bd p0 p1 t0 t1 y0 y1
                  obtain ⟨u, eu⟩ : ∃ u, p * t = u := ⟨_, rfl⟩
                  rw [eu] at g1 g2 g3 g4 hrs
                  have w1 : IntKind.i64.wrap (p * t) = u := by rw [eu]; exact wrap_in (by omega) (by omega)
                  obtain ⟨P, eP⟩ : ∃ P, u * y = P := ⟨_, rfl⟩
                  rw [eP] at g3 g4 hrs
                  have w2 : IntKind.i64.wrap (u * y) = P := by rw [eP]; exact wrap_in (by omega) (by omega)
                  clear eu eP
                  have w3' : IntKind.i64.wrap (V + P) = V + P := wrap_in (by omega) (by omega)
                  have w4' : (V + P).tmod D = (V + P) % D := Int.tmod_eq_emod_of_nonneg (by omega)
                  have hm0 := Int.emod_nonneg (V + P) (show D ≠ 0 by omega)
                  have hm1 := Int.emod_lt_of_pos (V + P) (show 0 < D by omega)
                  have hE := hide (show ((V + P) % D + (rowF t (tu.drop (κ + 1)) (pr.drop (e + 1)) + R)) % D = F by
                    have := HFF.out; rw [hrs.out, Int.add_assoc] at this; exact em_go this)
                  obtain ⟨Y, hY⟩ : ∃ Y, (V + P) % D = Y := ⟨_, rfl⟩
                  rw [hY] at w4' hm0 hm1 hE
                  clear hY
                  have t3 : ¬ D = 0 := by omega
                  have q1 : (i0 : Int) < (os.length : Int) := by omega
                  have q3 : (κ : Int) < (os.length : Int) := by omega
                  have q2 : (e : Int) < (pr.length : Int) := by omega
                  go_wp2_with fail
                  refine wp_region_dr [0, 1, 2, 3, 4, 5, 6, 7, 8, 9, 10, 11, 12, 13, 14, 15, 16, 17, 18] 18 w5 (by kernel_rfl) (by kernel_rfl) (by kernel_rfl) (fun _ _ _ _ _ h => h) hDr (fun wd hDr => ?_)
                  repeat (first | (apply ord_tk rfl (by rfl) (by rfl) (by rfl); (focus (rintro w ⟨dm, rfl⟩; go_simp; (try with_reducible rfl))); (try simp only [Act.put, List.setIfInBounds_toArray, List.set_cons_zero, List.set_cons_succ])) | (apply ord_skip rfl (by rfl) (by rfl) (fun _ => hDr); (try simp only [Act.put, List.setIfInBounds_toArray, List.set_cons_zero, List.set_cons_succ])))
                  refine ord_do rfl (by rfl) (by rfl) (fun K hK => ?_)
                  go_simp
                  refine hK.out _ _ (fun h => absurd h (by omega)) ?_
                  (try simp only [Act.put, List.setIfInBounds_toArray, List.set_cons_zero, List.set_cons_succ])
                  clear hK K
                  refine ord_nil ?_
                  go_wp2_with fail
                  go_roundw
                  case rel => exact ⟨κ + 1, e + 1, Y, by omega, by omega, by go_num, by go_num, rfl, hm0, hm1, by omega, hE.out, hDr⟩
                  case measure => simp [intOf] <;> omega
                · obtain rfl : κ = os.length := by omega
                  have hEq : e = q + r := by omega
                  have hE := hide (show (V + fP (tu.drop (i0 + 1)) (pr.drop e)) % D = F by
                    have := HFF.out; rw [List.drop_of_length_le (by rw [HTL.out]; omega)] at this; rw [hEq, HR.out]; simpa [rowF] using this)
                  have HE2 := hide (show e + tri (os.length - (i0 + 1)) = T by rw [hEq]; exact HQ2.out)
                  clear hEq he
                  go_wp2_with fail
                  go_roundw
                  case rel => exact ⟨i0 + 1, e, V, by omega, by go_num, rfl, rfl, hV0, hV1, HE2.out, hE.out, hDr⟩
                  case measure => simp [intOf] <;> omega
            · obtain rfl : i0 = os.length := by omega
              have hE := hide (show V = F by
                have := HFF.out; rw [List.drop_of_length_le (by rw [HTL.out]; omega)] at this; simp only [fP, Int.add_zero] at this; rw [← this]; exact (Int.emod_eq_of_lt hV0 hV1).symm)
              obtain ⟨m, rfl⟩ := hDr
              replace hI := hI.drewN m
              have hJ := hI.alloc hwz (.cells #[.int .i64 V] 2)
              have o2 := hI.out.cell 2
              clear HFF
              go_wp2_with (at_builtin; refine list_push _ rfl _ _ rfl W.heap.size vv xs rfl hJ.vals V _ _ rfl (Blk.new _ _ _) (by rw [HL.out]; omega) (by simp; omega) (by simp) ?_; intro g2 cap w6 hP; have o2' := hJ.pushed hP; have c2' := o2'.cell 2; have f2' := o2'.frozen 2)
              go_roundw
              case rel => exact ⟨k + 1, _, by omega, by go_num, by rw [hFs.out, ← hE.out]; exact hJ.step hP (by simp; omega) (by have := hRs.out; omega) (by omega) (hI.ordsNe (by simp))⟩
              case measure => simp [intOf] <;> omega
    · obtain rfl : k = N := by omega
      obtain ⟨xs, hxs⟩ : ∃ xs, fromL os D sq pr k = xs := ⟨_, rfl⟩
      rw [hxs] at hI
      have HX := hide hxs
      clear hxs
      obtain ⟨A2, c2, rfl⟩ := hI.vals.val
      obtain ⟨o0, o1, o2⟩ := hI.reads
      have hres := hI.res
      have r0 := hres.cell 0
      have r1 := hres.cell 1
      have r2 := hres.cell 2
      have f0 := hres.frozen 0
      have f1 := hres.frozen 1
      have f2 := hres.frozen 2
      go_wp2
      have hb3 := put3_blk (x := .slice Av os.length cv) (y := .int .i64 D) (z := .slice A2 xs.length c2) hres
      have q0 := hb3.cell 0
      have q1 := hb3.cell 1
      have q2 := hb3.cell 2
      unfold put3 at q0 q1 q2
      refine bodyPost_ret (v := .agg #[.slice Av os.length cv, .int .i64 D, .slice A2 xs.length c2]) (by simp [results, Tryz.results86, go_sem, q0, q1, q2]) rfl ?_
      rw [HX.out]
      exact (hI.weak hbW (Nat.le_of_lt hszW)).done1 (Nat.le_refl _)
end Go.Proofs.YtonehmjoolflfaaGreatDoor
