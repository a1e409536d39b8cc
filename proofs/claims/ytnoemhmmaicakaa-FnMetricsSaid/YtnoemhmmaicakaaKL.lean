
/- The walk of the law FnMetrics. -/
import Derived.Test.YtnoemhmmaicakaaKTa
import Derived.Test.YtnoemhmmaicakaaKT5
import Derived.Test.YtnoemhmmaicakaaKT6
import Derived.Test.YtnoemhmmaicakaaDva
import Derived.Test.YtnoemhmmaicakaaD5a
import Derived.Test.YtnoemhmmaicakaaGz
import Derived.WalkLawsBesides
import Derived.Deep.DeepCutAuto
import Derived.Deep.CutRange
namespace Go.Proofs.Ytnoemhmmaicakaa
open Go Go.RowKit Grp
set_option linter.unusedSimpArgs false
set_option linter.unusedVariables false
/-- How many pairs were found before (a, b). -/
def kmF (D n1 n2 a b : Nat) : Nat := kmN D n1 a * kmN D n2 D + (if kmB D n1 a = true then kmN D n2 b else 0)
theorem kmF_00 (D n1 n2 : Nat) : kmF D n1 n2 0 0 = 0 := by simp [kmF, kmN]
theorem kmF_row (D n1 n2 a : Nat) : kmF D n1 n2 a D = kmF D n1 n2 (a + 1) 0 := by
  unfold kmF
  rw [show kmN D n1 (a + 1) = if kmB D n1 a = true then kmN D n1 a + 1 else kmN D n1 a from rfl, show kmN D n2 0 = 0 from rfl]
  split <;> simp [Nat.add_mul]
theorem kmF_t {D n1 n2 a b : Nat} (h1 : kmB D n1 a = true) (h2 : kmB D n2 b = true) : kmF D n1 n2 a (b + 1) = kmF D n1 n2 a b + 1 := by
  unfold kmF
  rw [show kmN D n2 (b + 1) = if kmB D n2 b = true then kmN D n2 b + 1 else kmN D n2 b from rfl, if_pos h1, if_pos h1, if_pos h2]
  omega
theorem kmF_f {D n1 n2 a b : Nat} (h : ¬ (kmB D n1 a = true ∧ kmB D n2 b = true)) : kmF D n1 n2 a (b + 1) = kmF D n1 n2 a b := by
  unfold kmF
  rw [show kmN D n2 (b + 1) = if kmB D n2 b = true then kmN D n2 b + 1 else kmN D n2 b from rfl]
  by_cases h1 : kmB D n1 a = true
  · rw [if_pos h1, if_pos h1, if_neg fun h2 => h ⟨h1, h2⟩]
  · rw [if_neg h1, if_neg h1]
theorem kmF_le {D n1 n2 a b : Nat} (hD : D ≤ 16) (ha : a ≤ D) (hb : b ≤ D) : kmF D n1 n2 a b ≤ 272 := by
  have h1 := kmN_le D n1 a
  have h2 := kmN_le D n2 D
  have h3 := kmN_le D n2 b
  have h4 : kmN D n1 a * kmN D n2 D ≤ 16 * 16 := Nat.mul_le_mul (by omega) (by omega)
  unfold kmF
  split <;> omega
theorem kmF_end (D n1 n2 : Nat) : kmF D n1 n2 D 0 = kmN D n1 D * kmN D n2 D := by
  unfold kmF
  rw [show kmN D n2 0 = 0 from rfl]
  split <;> omega
theorem kmB_0 (D n : Nat) : kmB D n 0 = true := by simp [kmB]
theorem kmP_0 (D n1 n2 : Nat) : kmP D n1 n2 0 = true := by simp [kmP]
theorem slNil (W : World) : Sl W W.heap.size none 0 0 [] := ⟨rfl, by omega, by simp, fun h => absurd h (by omega), fun _ => rfl⟩
theorem lenNat1 {us : List Int} (hG : OkG us) (h : us.length = 1) : ∃ n : Nat, us = [(n : Int)] := by
  match us, h with
  | [a], _ =>
    have := hG.m2 a (by simp)
    exact ⟨a.toNat, by rw [Int.toNat_of_nonneg (by omega)]⟩
theorem lenNat2 {us : List Int} (hG : OkG us) (h : us.length = 2) : ∃ n1 n2 : Nat, us = [(n1 : Int), (n2 : Int)] := by
  match us, h with
  | [a, b], _ =>
    have := hG.m2 a (by simp)
    have := hG.m2 b (by simp)
    exact ⟨a.toNat, b.toNat, by rw [Int.toNat_of_nonneg (by omega), Int.toNat_of_nonneg (by omega)]⟩
theorem Mu_0 (os : List Int) (x : Int) : Mu os ((0 : Nat) : Int) x = 0 := by
  unfold Mu
  generalize os.reverse = l
  induction l generalizing x with
  | nil => rfl
  | cons m r ih =>
    simp only [mulR]
    rw [ih]
    simp
theorem Mu_rng {os : List Int} (h : OkG os) (x : Int) : ∀ j : Nat, 0 ≤ Mu os j x ∧ Mu os j x < prodL os
  | 0 => by rw [Mu_0]; have := h.ge; omega
  | j + 1 => by
    rw [show ((j + 1 : Nat) : Int) = (j : Int) + 1 from rfl, ← Mu_succ h]
    exact Ar_rng h _ _
set_option maxRecDepth 100000 in
set_option maxHeartbeats 16000000 in
theorem law_Metrics {w : World} (A : Option Addr) (n c : Nat) (bs : List Int) (h : BlIn w A n c bs) : Calls Try.prog 3 #[.slice A n c] w (Re w (.bool true)) := by
  by_cases hn0 : 4096 < n
  · have hd : decide (4096 < (n : Int)) = true := decide_eq_true (by omega)
    have Hd := hide hd
    clear hd
    go_enter Try.func3, Try.ntmps3
    go_wp2_with fail
    refine (big_any _ A n c).mono ?_
    rintro e w1 ⟨rfl, m, rfl⟩
    rw [Hd.out]
    go_wp2
    go_ret
    exact ⟨rfl, (by repeat (first | assumption | exact Below.refl _ _ | apply below_drewN | apply Below.drew | apply Below.alloc | apply Below.setCell | omega | (focus (simp; done)) | (focus (simp; omega))))⟩
  · have hn : n ≤ 4096 := by omega
    have hd : decide (4096 < (n : Int)) = false := decide_eq_false (by omega)
    have Hd := hide hd
    clear hd
    have hS := h.sl
    go_enter Try.func3, Try.ntmps3
    go_wp2_with fail
    refine (big_any _ A n c).mono ?_
    rintro e w1 ⟨rfl, m, rfl⟩
    rw [Hd.out]
    have kk : Below w.heap.size w (w.drewN m) := below_drewN (Below.refl _ _) _
    obtain ⟨w1, hw1⟩ : ∃ w1, w.drewN m = w1 := ⟨_, rfl⟩
    rw [hw1] at kk ⊢
    clear hw1
    have hsz := kk.size
    have HSB := hide (fun wx (kx : Below w.heap.size w wx) => (⟨hS.len, hS.cap, hS.rng, fun h0 => by
      obtain ⟨b, off, e, hlt, hc⟩ := hS.at_ h0
      exact ⟨b, off, e, by have := kx.size; omega, fun k hk => (kx.cell (p := ⟨b, off + k, none⟩) hlt).trans (hc k hk)⟩⟩ : SlB wx wx.heap.size A n c bs))
    go_wp2_with fail
    refine (drawPair_any w1 A n c bs (HSB.out _ kk) hn).mono ?_
    rintro e w2 ⟨A1, c1, A2, c2, os, q, vs, x, y, rfl, hG, hx, hy, s1, s2, hb2, -, -⟩
    have kk2 := kk.trans (hb2.mono hsz)
    have hM := GK.new (q := q) s1 s2 kk2
    have lo := hG.o
    have lv := hG.v
    obtain ⟨w3, hw3⟩ : ∃ w3, w2.alloc (.cells #[.slice A1 os.length c1, .int .i64 q, .slice A2 vs.length c2] 26) = w3 := ⟨_, rfl⟩
    rw [hw3] at hM
    clear hb2 s1 s2 kk2
    obtain ⟨pc, hpc⟩ : ∃ pc, codeE os q vs [x, y] = pc := ⟨_, rfl⟩
    obtain ⟨pv, hpv⟩ : ∃ pv, (if pc = 0 then Pr os q vs x y else 0) = pv := ⟨_, rfl⟩
    obtain ⟨bM, hbM⟩ : ∃ bM, isM os q vs = bM := ⟨_, rfl⟩
    have HC1 := hide (fun W h1 h2 => impl_Pair_any W A1 os.length c1 os q A2 vs.length c2 vs x y hx hy h1 h2 (by omega) (by omega))
    have HC2 := hide (fun W h1 h2 => spec_Pair_any W A1 os.length c1 os q A2 vs.length c2 vs x y hx hy h1 h2 (by omega) (by omega))
    have HI1 := hide (fun W h1 h2 => implIs_any W A1 os.length c1 os q A2 vs.length c2 vs h1 h2 (by omega) (by omega))
    have HI2 := hide (fun W h1 h2 => specIs_any W A1 os.length c1 os q A2 vs.length c2 vs h1 h2 (by omega) (by omega))
    rw [hpc, hpv] at HC1 HC2
    rw [hbM] at HI1 HI2
    have HPC := hide hpc
    have HPV := hide hpv
    clear hpc hpv hbM
    have hMb := hM.b
    have x0 := hMb.cell 0
    have x1 := hMb.cell 1
    have x2 := hMb.cell 2
    go_wp2_with fail
    clear hMb x0 x1 x2
    refine (HC1.out _ hM.s1 hM.s2).mono ?_
    rintro e wn ⟨rfl, hbn⟩
    (try replace hM := hM.all hbn)
    clear hw3 hbn
    have hMb := hM.b
    have x0 := hMb.cell 0
    have x1 := hMb.cell 1
    have x2 := hMb.cell 2
    go_wp2_with fail
    clear hMb x0 x1 x2
    refine (HC2.out _ hM.s1 hM.s2).mono ?_
    rintro e wn ⟨rfl, hbn⟩
    (try replace hM := hM.all hbn)
    clear hbn HC1 HC2
    have hMb := hM.b
    have x0 := hMb.cell 0
    have x1 := hMb.cell 1
    have x2 := hMb.cell 2
    have hMl := hMb.lt
    have t0 : (pc != pc) = false := by simp
    have t1 : (pv != pv) = false := by simp
    have t2 : (bM != bM) = false := by simp
    go_wp2_with fail
    refine wp_region_be [0, 1, 2, 3, 4, 5, 6, 7, 8, 9, 11, 10, 12, 13, 14] 15 wn.heap.size wn (by kernel_rfl) (by kernel_rfl) (by kernel_rfl) (fun _ _ _ _ _ h => h) (Below.refl _ _) (fun wd hBe => ?_)
    repeat (first | (apply ord_tk rfl (by rfl) (by rfl) (by rfl); (focus (intro wx hSw; have r0 := (hSw.cell (p := ⟨w2.heap.size, 0, none⟩) hMl).trans x0; have r1 := (hSw.cell (p := ⟨w2.heap.size, 1, none⟩) hMl).trans x1; have r2 := (hSw.cell (p := ⟨w2.heap.size, 2, none⟩) hMl).trans x2; go_simp; (try with_reducible rfl))); (try simp only [Act.put, List.setIfInBounds_toArray, List.set_cons_zero, List.set_cons_succ])) | (apply ord_skip rfl (by rfl) (by rfl) (fun _ => hBe); (try simp only [Act.put, List.setIfInBounds_toArray, List.set_cons_zero, List.set_cons_succ])))
    refine ord_do rfl (by rfl) (by rfl) (fun K hK => ?_)
    go_simp
    refine (HI1.out _ (hM.all hBe).s1 (hM.all hBe).s2).mono ?_
    rintro e wd' ⟨rfl, hwd⟩
    replace hBe := hBe.trans (hwd.mono hBe.size)
    clear hwd
    refine hK.out _ _ (fun _ => hBe) ?_
    (try simp only [Act.put, List.setIfInBounds_toArray, List.set_cons_zero, List.set_cons_succ])
    clear hK K
    repeat (first | (apply ord_tk rfl (by rfl) (by rfl) (by rfl); (focus (intro wx hSw; have r0 := (hSw.cell (p := ⟨w2.heap.size, 0, none⟩) hMl).trans x0; have r1 := (hSw.cell (p := ⟨w2.heap.size, 1, none⟩) hMl).trans x1; have r2 := (hSw.cell (p := ⟨w2.heap.size, 2, none⟩) hMl).trans x2; go_simp; (try with_reducible rfl))); (try simp only [Act.put, List.setIfInBounds_toArray, List.set_cons_zero, List.set_cons_succ])) | (apply ord_skip rfl (by rfl) (by rfl) (fun _ => hBe); (try simp only [Act.put, List.setIfInBounds_toArray, List.set_cons_zero, List.set_cons_succ])))
    refine ord_do rfl (by rfl) (by rfl) (fun K hK => ?_)
    go_simp
    refine (HI2.out _ (hM.all hBe).s1 (hM.all hBe).s2).mono ?_
    rintro e wd' ⟨rfl, hwd⟩
    replace hBe := hBe.trans (hwd.mono hBe.size)
    clear hwd
    refine hK.out _ _ (fun _ => hBe) ?_
    (try simp only [Act.put, List.setIfInBounds_toArray, List.set_cons_zero, List.set_cons_succ])
    clear hK K
    repeat (first | (apply ord_tk rfl (by rfl) (by rfl) (by rfl); (focus (intro wx hSw; skip; go_simp; (try with_reducible rfl))); (try simp only [Act.put, List.setIfInBounds_toArray, List.set_cons_zero, List.set_cons_succ])) | (apply ord_skip rfl (by rfl) (by rfl) (fun _ => hBe); (try simp only [Act.put, List.setIfInBounds_toArray, List.set_cons_zero, List.set_cons_succ])))
    refine ord_nil ?_
    replace hM := hM.all hBe
    clear x0 x1 x2 hMb hMl HI1 HI2 hBe t0 t1 t2
    go_wp2_with fail
    refine (drawKm_any _ A n c bs (HSB.out _ hM.kk) hn).mono ?_
    rintro e w5 ⟨AO, cO, us, D, rfl, lu, hD, sO, hbn⟩
    replace hM := hM.all hbn
    clear hbn
    have HK1 := hide (fun W h1 => impl_Km_any W AO us.length cO us D h1 (by omega))
    have HK2 := hide (fun W h1 => spec_Km_any W AO us.length cO us D h1 (by omega))
    obtain ⟨kv, hkv⟩ : ∃ kv, kmV us D = kv := ⟨_, rfl⟩
    obtain ⟨kc, hkc⟩ : ∃ kc, kmC us D = kc := ⟨_, rfl⟩
    rw [hkv, hkc] at HK1 HK2
    have HKV := hide hkv
    have HKC := hide hkc
    clear hkv hkc
    go_wp2_with fail
    refine (HK1.out _ sO).mono ?_
    rintro e w6 ⟨rfl, hbn⟩
    replace hM := hM.all hbn
    replace sO := (sO.below hbn).more hbn.size
    clear hbn
    go_wp2_with fail
    refine (HK2.out _ sO).mono ?_
    rintro e w7 ⟨rfl, hbn⟩
    replace hM := hM.all hbn
    replace sO := (sO.below hbn).more hbn.size
    clear hbn HK1 HK2
    have t0 : (kc != kc) = false := by simp
    have t1 : (kv != kv) = false := by simp
    obtain ⟨bX, hbX⟩ : ∃ b, decide (kc = 0 ∧ (us.length : Int) ≤ 2 ∧ D ≤ 16) = b := ⟨_, rfl⟩
    have HBX := hide hbX
    clear hbX
    go_upto_region 13 with fail
    go_cut [129] from 119 to 128 (fun s129 wx => s129 = .bool bX ∧ w7 = wx)
    case first =>
      have hkc2 : kc = 0 ∨ kc = 2 := by
        rw [← HKC.out]
        unfold kmC
        split
        · exact Or.inl rfl
        · exact Or.inr rfl
      have HB := HBX.out
      clear HBX
      rcases hkc2 with rfl | rfl
      · by_cases e2 : (us.length : Int) ≤ 2
        · by_cases e3 : D ≤ 16
          · rw [decide_eq_true ⟨rfl, e2, e3⟩] at HB
            subst HB
            go_wp2_with fail
            go_meet
            exact ⟨rfl, rfl⟩
          · rw [decide_eq_false fun h => e3 h.2.2] at HB
            subst HB
            go_wp2_with fail
            go_meet
            exact ⟨rfl, rfl⟩
        · rw [decide_eq_false fun h => e2 h.2.1] at HB
          subst HB
          go_wp2_with fail
          go_meet
          exact ⟨rfl, rfl⟩
      · rw [decide_eq_false fun h => absurd h.1 (by decide)] at HB
        subst HB
        go_wp2_with fail
        go_meet
        exact ⟨rfl, rfl⟩
    case rest =>
    obtain ⟨rfl, rfl⟩ := hcut
    clear t0 t1
    go_upto_if 129 with fail
    go_cut [16, 17, 18, 19, 20, 21, 22, 23, 24, 25, 26] from 130 to 195 (fun _ _ _ _ _ _ _ _ _ _ _ wx => GK w w2.heap.size A1 c1 A2 c2 os q vs wx)
    case first =>
      cases bX with
      | false =>
        go_wp2_with fail
        go_meet
        exact hM
      | true =>
        obtain ⟨rfl, e2, e3⟩ := of_decide_eq_true HBX.out
        have hok : okG us = true ∧ ordB D = true := by
          have := HKC.out
          unfold kmC at this
          split at this
          · rename_i h
            simpa using h
          · omega
        obtain ⟨ok1, ok2⟩ := hok
        have HG := hide (okG_iff.1 ok1)
        have hdd := ordB_iff.1 ok2
        obtain ⟨d, rfl⟩ : ∃ k : Nat, D = k := ⟨D.toNat, by omega⟩
        have hd1 : 1 ≤ d := by omega
        have hd16 : d ≤ 16 := by omega
        have HOK := hide ok2
        have hL1 := HG.out.l1
        clear hdd e3 ok1 ok2
        obtain ⟨L, hL⟩ : ∃ L, us.length = L := ⟨_, rfl⟩
        rw [hL] at sO e2 hL1 ⊢
        obtain rfl | rfl : L = 1 ∨ L = 2 := by omega
        · obtain ⟨n1, rfl⟩ := lenNat1 HG.out hL
          have hkv : kv = (kmN d n1 d : Nat) := by rw [← HKV.out]; exact kmV1 HG.out HOK.out hd16
          subst hkv
          clear e2 hL1 hL lu HKC HKV HBX
          go_wp2_with fail
          go_loopw [16, 17] (fun f i wr => ∃ a : Nat, a ≤ d ∧ i = .int .i64 a ∧ f = .int .i64 (kmN d n1 a : Nat) ∧ GK w w2.heap.size A1 c1 A2 c2 os q vs wr ∧ Sl wr wr.heap.size AO 1 cO [(n1 : Int)]) (fun _ i _ => d - (intOf i).toNat)
          case atStart => exact ⟨0, by omega, rfl, rfl, hM, sO⟩
          case round =>
            clear hM sO
            obtain ⟨a, ha, rfl, rfl, hM, sO⟩ := hrel
            by_cases hlt : a < d
            · have HMF := hide (mf1 HG.out HOK.out hlt)
              have hle := kmN_le d n1 a
              have HS := hide (show kmN d n1 (a + 1) = if kmB d n1 a = true then kmN d n1 a + 1 else kmN d n1 a from rfl)
              obtain ⟨f, hf⟩ : ∃ f, kmN d n1 a = f := ⟨_, rfl⟩
              rw [hf] at HS hle ⊢
              clear hf
              have hx : Below wr.heap.size wr (wr.alloc (.cells #[.int .i64 (a : Int)] 2)) := (Below.refl _ _).alloc (Nat.le_refl _) _
              have sO1 := (sO.below hx).more hx.size
              have hM1 := hM.all hx
              go_wp2_with fail
              refine (mf_call _ AO 1 cO [(n1 : Int)] d (by omega) (by omega) (some ⟨wr.heap.size, 0, none⟩) 1 1 [(a : Int)] none 0 0 [] sO1 (slk1 wr _ _ rfl ⟨by omega, by omega⟩) (slNil _) (by omega) (by omega) (by omega)).mono ?_
              rintro e wn ⟨G1, m1, d1, mq, G2, m2, d2, rfl, hbn⟩
              replace hM1 := hM1.all hbn
              replace sO1 := (sO1.below hbn).more hbn.size
              obtain ⟨cc, hcc⟩ : ∃ cc, mfC [(n1 : Int)] (d : Int) [(a : Int)] [] = cc := ⟨_, rfl⟩
              rw [hcc] at HMF ⊢
              clear hcc hx hbn sO hM
              have hy : Below wn.heap.size wn (wn.alloc (.cells #[.slice G1 m1 d1, .int .i64 mq, .slice G2 m2 d2] 26)) := (Below.refl _ _).alloc (Nat.le_refl _) _
              replace hM1 := hM1.all hy
              replace sO1 := (sO1.below hy).more hy.size
              clear hy
              by_cases hc0 : cc = 0
              · subst hc0
                have hs := HS.out
                rw [if_pos (HMF.out.1 rfl)] at hs
                have HS2 := hide hs
                clear hs HS HMF
                go_wp2_with fail
                go_roundw
                case rel => exact ⟨a + 1, by omega, by go_num, by rw [HS2.out]; go_num, hM1, sO1⟩
                case measure => simp [intOf] <;> omega
              · have hs := HS.out
                rw [if_neg fun h => hc0 (HMF.out.2 h)] at hs
                have HS2 := hide hs
                clear hs HS HMF
                go_wp2_with fail
                go_roundw
                case rel => exact ⟨a + 1, by omega, by go_num, by rw [HS2.out], hM1, sO1⟩
                case measure => simp [intOf] <;> omega
            · obtain rfl : a = d := by omega
              go_wp2_with fail
              go_meet
              exact hM
        · obtain ⟨n1, n2, rfl⟩ := lenNat2 HG.out hL
          have HKV2 := hide (show kv = ((kmN d n1 d * kmN d n2 d : Nat) : Int) * (kmQ d n1 n2 d : Nat) by rw [← HKV.out]; exact kmV2 HG.out HOK.out hd16)
          clear e2 hL1 hL lu HKC HKV HBX
          go_wp2_with fail
          go_loopw [16, 17] (fun f i wr => ∃ a : Nat, a ≤ d ∧ i = .int .i64 a ∧ f = .int .i64 (kmF d n1 n2 a 0 : Nat) ∧ GK w w2.heap.size A1 c1 A2 c2 os q vs wr ∧ Sl wr wr.heap.size AO 2 cO [(n1 : Int), (n2 : Int)]) (fun _ i _ => d - (intOf i).toNat)
          case atStart => exact ⟨0, by omega, rfl, by rw [kmF_00]; rfl, hM, sO⟩
          case round =>
            clear hM sO
            obtain ⟨a, ha, rfl, rfl, hM, sO⟩ := hrel
            by_cases hlt : a < d
            · go_wp2_with fail
              go_loopw [16, 20] (fun f i wq => ∃ b : Nat, b ≤ d ∧ i = .int .i64 b ∧ f = .int .i64 (kmF d n1 n2 a b : Nat) ∧ GK w w2.heap.size A1 c1 A2 c2 os q vs wq ∧ Sl wq wq.heap.size AO 2 cO [(n1 : Int), (n2 : Int)]) (fun _ i _ => d - (intOf i).toNat)
              case atStart => exact ⟨0, by omega, rfl, rfl, hM, sO⟩
              case round =>
                clear hM sO
                obtain ⟨b, hb, rfl, rfl, hM, sO⟩ := hrel
                by_cases hlb : b < d
                · have HMF := hide (show mfC [(n1 : Int), (n2 : Int)] (d : Int) [(a : Int), (b : Int)] [0] = 0 ↔ (kmB d n1 a = true ∧ kmB d n2 b = true) from
                    Iff.trans (mf2 (c := 0) HG.out HOK.out hlt hlb (by omega)) ⟨fun h => ⟨h.1, h.2.1⟩, fun h => ⟨h.1, h.2, kmP_0 _ _ _⟩⟩)
                  have hle := kmF_le (n1 := n1) (n2 := n2) hd16 ha hb
                  have HS1 := hide (fun h : kmB d n1 a = true ∧ kmB d n2 b = true => kmF_t h.1 h.2)
                  have HS0 := hide (fun h => kmF_f (D := d) (n1 := n1) (n2 := n2) (a := a) (b := b) h)
                  obtain ⟨f, hf⟩ : ∃ f, kmF d n1 n2 a b = f := ⟨_, rfl⟩
                  rw [hf] at HS1 HS0 hle ⊢
                  clear hf
                  have hx : Below wr.heap.size wr (wr.alloc (.cells #[.int .i64 (a : Int), .int .i64 (b : Int)] 2)) := (Below.refl _ _).alloc (Nat.le_refl _) _
                  have s1 := slk2 wr _ (a : Int) (b : Int) rfl ⟨by omega, by omega⟩ ⟨by omega, by omega⟩
                  have hx2 : Below (wr.alloc (.cells #[.int .i64 (a : Int), .int .i64 (b : Int)] 2)).heap.size (wr.alloc (.cells #[.int .i64 (a : Int), .int .i64 (b : Int)] 2)) ((wr.alloc (.cells #[.int .i64 (a : Int), .int .i64 (b : Int)] 2)).alloc (.cells #[.int .i64 0] 2)) := (Below.refl _ _).alloc (Nat.le_refl _) _
                  have sO1 := (((sO.below hx).more hx.size).below hx2).more hx2.size
                  have hM1 := (hM.all hx).all hx2
                  have s1' := (s1.below hx2).more hx2.size
                  have s2 := slk1 (wr.alloc (.cells #[.int .i64 (a : Int), .int .i64 (b : Int)] 2)) (wr.heap.size + 1) 0 (by simp) ⟨by omega, by omega⟩
                  clear s1 hx hx2
                  go_wp2_with fail
                  refine (mf_call _ AO 2 cO [(n1 : Int), (n2 : Int)] d (by omega) (by omega) (some ⟨wr.heap.size, 0, none⟩) 2 2 [(a : Int), (b : Int)] (some ⟨wr.heap.size + 1, 0, none⟩) 1 1 [0] sO1 s1' s2 (by omega) (by omega) (by omega)).mono ?_
                  rintro e wn ⟨G1, m1, d1, mq, G2, m2, d2, rfl, hbn⟩
                  replace hM1 := hM1.all hbn
                  replace sO1 := (sO1.below hbn).more hbn.size
                  obtain ⟨cc, hcc⟩ : ∃ cc, mfC [(n1 : Int), (n2 : Int)] (d : Int) [(a : Int), (b : Int)] [0] = cc := ⟨_, rfl⟩
                  rw [hcc] at HMF ⊢
                  clear hcc hbn sO hM s1' s2
                  have hy : Below wn.heap.size wn (wn.alloc (.cells #[.slice G1 m1 d1, .int .i64 mq, .slice G2 m2 d2] 26)) := (Below.refl _ _).alloc (Nat.le_refl _) _
                  replace hM1 := hM1.all hy
                  replace sO1 := (sO1.below hy).more hy.size
                  clear hy
                  by_cases hc0 : cc = 0
                  · subst hc0
                    have HS2 := hide (HS1.out (HMF.out.1 rfl))
                    clear HS1 HS0 HMF
                    go_wp2_with fail
                    go_roundw
                    case rel => exact ⟨b + 1, by omega, by go_num, by rw [HS2.out]; go_num, hM1, sO1⟩
                    case measure => simp [intOf] <;> omega
                  · have HS2 := hide (HS0.out fun h => hc0 (HMF.out.2 h))
                    clear HS1 HS0 HMF
                    go_wp2_with fail
                    go_roundw
                    case rel => exact ⟨b + 1, by omega, by go_num, by rw [HS2.out], hM1, sO1⟩
                    case measure => simp [intOf] <;> omega
                · have hbd : d = b := by omega
                  subst hbd
                  have HS2 := hide (kmF_row d n1 n2 a)
                  obtain ⟨f, hf⟩ : ∃ f, kmF d n1 n2 a d = f := ⟨_, rfl⟩
                  rw [hf] at HS2 ⊢
                  clear hf
                  go_wp2_with fail
                  go_roundw
                  case rel => exact ⟨a + 1, by omega, by go_num, by rw [← HS2.out], hM, sO⟩
                  case measure => simp [intOf] <;> omega
            · have had : d = a := by omega
              subst had
              rw [kmF_end]
              have hF1 := kmN_le d n1 d
              have hF2 := kmN_le d n2 d
              have hF : kmN d n1 d * kmN d n2 d ≤ 16 * 16 := Nat.mul_le_mul (by omega) (by omega)
              obtain ⟨F, hFF⟩ : ∃ F, kmN d n1 d * kmN d n2 d = F := ⟨_, rfl⟩
              rw [hFF] at HKV2 hF ⊢
              clear hFF hF1 hF2 hlt ha
              go_wp2_with fail
              go_loopw [23, 24] (fun f i wq => ∃ b : Nat, b ≤ d ∧ i = .int .i64 b ∧ f = .int .i64 (kmQ d n1 n2 b : Nat) ∧ GK w w2.heap.size A1 c1 A2 c2 os q vs wq ∧ Sl wq wq.heap.size AO 2 cO [(n1 : Int), (n2 : Int)]) (fun _ i _ => d - (intOf i).toNat)
              case atStart => exact ⟨0, by omega, rfl, rfl, hM, sO⟩
              case round =>
                clear hM sO
                obtain ⟨b, hb, rfl, rfl, hM, sO⟩ := hrel
                by_cases hlb : b < d
                · have HMF := hide (show mfC [(n1 : Int), (n2 : Int)] (d : Int) [0, 0] [(b : Int)] = 0 ↔ kmP d n1 n2 b = true from
                    Iff.trans (mf2 (a := 0) (b := 0) HG.out HOK.out (by omega) (by omega) hlb) ⟨fun h => h.2.2, fun h => ⟨kmB_0 _ _, kmB_0 _ _, h⟩⟩)
                  have hle := kmQ_le d n1 n2 b
                  have HS := hide (show kmQ d n1 n2 (b + 1) = if kmP d n1 n2 b = true then kmQ d n1 n2 b + 1 else kmQ d n1 n2 b from rfl)
                  obtain ⟨f, hf⟩ : ∃ f, kmQ d n1 n2 b = f := ⟨_, rfl⟩
                  rw [hf] at HS hle ⊢
                  clear hf
                  have hx : Below wr.heap.size wr (wr.alloc (.cells #[.int .i64 0, .int .i64 0] 2)) := (Below.refl _ _).alloc (Nat.le_refl _) _
                  have s1 := slk2 wr _ 0 0 rfl ⟨by omega, by omega⟩ ⟨by omega, by omega⟩
                  have hx2 : Below (wr.alloc (.cells #[.int .i64 0, .int .i64 0] 2)).heap.size (wr.alloc (.cells #[.int .i64 0, .int .i64 0] 2)) ((wr.alloc (.cells #[.int .i64 0, .int .i64 0] 2)).alloc (.cells #[.int .i64 (b : Int)] 2)) := (Below.refl _ _).alloc (Nat.le_refl _) _
                  have sO1 := (((sO.below hx).more hx.size).below hx2).more hx2.size
                  have hM1 := (hM.all hx).all hx2
                  have s1' := (s1.below hx2).more hx2.size
                  have s2 := slk1 (wr.alloc (.cells #[.int .i64 0, .int .i64 0] 2)) (wr.heap.size + 1) (b : Int) (by simp) ⟨by omega, by omega⟩
                  clear s1 hx hx2
                  go_wp2_with fail
                  refine (mf_call _ AO 2 cO [(n1 : Int), (n2 : Int)] d (by omega) (by omega) (some ⟨wr.heap.size, 0, none⟩) 2 2 [0, 0] (some ⟨wr.heap.size + 1, 0, none⟩) 1 1 [(b : Int)] sO1 s1' s2 (by omega) (by omega) (by omega)).mono ?_
                  rintro e wn ⟨G1, m1, d1, mq, G2, m2, d2, rfl, hbn⟩
                  replace hM1 := hM1.all hbn
                  replace sO1 := (sO1.below hbn).more hbn.size
                  obtain ⟨cc, hcc⟩ : ∃ cc, mfC [(n1 : Int), (n2 : Int)] (d : Int) [0, 0] [(b : Int)] = cc := ⟨_, rfl⟩
                  rw [hcc] at HMF ⊢
                  clear hcc hbn sO hM s1' s2
                  have hy : Below wn.heap.size wn (wn.alloc (.cells #[.slice G1 m1 d1, .int .i64 mq, .slice G2 m2 d2] 26)) := (Below.refl _ _).alloc (Nat.le_refl _) _
                  replace hM1 := hM1.all hy
                  replace sO1 := (sO1.below hy).more hy.size
                  clear hy
                  by_cases hc0 : cc = 0
                  · subst hc0
                    have hs := HS.out
                    rw [if_pos (HMF.out.1 rfl)] at hs
                    have HS2 := hide hs
                    clear hs HS HMF
                    go_wp2_with fail
                    go_roundw
                    case rel => exact ⟨b + 1, by omega, by go_num, by rw [HS2.out]; go_num, hM1, sO1⟩
                    case measure => simp [intOf] <;> omega
                  · have hs := HS.out
                    rw [if_neg fun h => hc0 (HMF.out.2 h)] at hs
                    have HS2 := hide hs
                    clear hs HS HMF
                    go_wp2_with fail
                    go_roundw
                    case rel => exact ⟨b + 1, by omega, by go_num, by rw [HS2.out], hM1, sO1⟩
                    case measure => simp [intOf] <;> omega
                · have hbd : d = b := by omega
                  subst hbd
                  have hq1 := kmQ_le d n1 n2 d
                  have hkv := HKV2.out
                  obtain ⟨Q, hQ⟩ : ∃ Q, kmQ d n1 n2 d = Q := ⟨_, rfl⟩
                  rw [hQ] at hkv hq1 ⊢
                  have hFQ : F * Q ≤ 256 * 16 := Nat.mul_le_mul (by omega) (by omega)
                  have w64 : IntKind.i64.wrap ((F : Int) * (Q : Int)) = kv := by
                    rw [hkv]
                    have e9 : (F : Int) * (Q : Int) = ((F * Q : Nat) : Int) := by simp
                    rw [e9]
                    exact wr64 _ ⟨by omega, by omega⟩
                  clear hkv hQ HKV2
                  go_wp2_with fail
                  go_meet
                  exact hM
    case rest =>
      replace hM := hcut
      clear hcut sO HKC HKV HBX lu hD
      rcases Classical.em (pc = 0) with hp0 | hp0
      · subst hp0
        have hpv := HPV.out
        rw [if_pos rfl] at hpv
        have hE := codeE_0 HPC.out
        have IM := hide hE.1
        have hra := List.all_eq_true.1 (show ([x, y].all fun z => inB z 0 (prodL os - 1)) = true from hE.2)
        have HXY : Hid ((0 ≤ x ∧ x < prodL os) ∧ (0 ≤ y ∧ y < prodL os)) := hide (by
          have h1 := hra x (by simp)
          have h2 := hra y (by simp)
          simp only [inB, decide_eq_true_eq] at h1 h2
          omega)
        clear hra hE HPC HPV
        have hl := IM.out.ok.len
        have hge := IM.out.ok.g.ge
        have HL := hide hl
        have hl1 : 1 ≤ vs.length := by omega
        clear hl hge
        obtain ⟨d, rfl⟩ : ∃ d : Nat, q = d := ⟨q.toNat, by have := IM.out.ok.d1; omega⟩
        have hd1 : 1 ≤ d := by have := IM.out.ok.d1; omega
        have hd2 : d ≤ 55440 := by have := IM.out.ok.d2; omega
        have hpr := Pr_rng IM.out.ok x y
        obtain ⟨k, rfl⟩ : ∃ k : Nat, pv = k := ⟨pv.toNat, by omega⟩
        have hk : k < d := by omega
        have HPV := hide hpv
        clear hpv hpr
        have hbS := HSB.out _ hM.kk
        go_wp2_with fail
        refine (roll_any _ A n c bs hbS hn _).mono ?_
        rintro e wi ⟨S, rfl, hD⟩
        have hM2 := hM.all hD.below
        have hMb := hM2.b
        have c2 := hMb.cell 2
        have hMl := hMb.lt
        clear hMb
        go_wp2_with fail
        refine (dice_any _ wi _ S A n c bs hbS (by omega) hD vs.length ⟨by omega, by omega⟩).mono ?_
        rintro e wj ⟨z, rfl, ⟨z0, z1, -⟩, hD2, -⟩
        replace hM := hM.all hD2.below
        have HZ : Hid (0 ≤ z ∧ z < prodL os) := hide (by have := z1 (by omega); have := HL.out; omega)
        clear hD hD2 hM2 c2 hMl z0 z1 hbS
        obtain ⟨s, hs⟩ : ∃ s, Ar os x y = s := ⟨_, rfl⟩
        obtain ⟨t, ht⟩ : ∃ t, Ng os x = t := ⟨_, rfl⟩
        have HS : Hid (0 ≤ s ∧ s < prodL os) := hide (by rw [← hs]; exact Ar_rng IM.out.ok.g x y)
        have HT : Hid (0 ≤ t ∧ t < prodL os) := hide (by rw [← ht]; exact Ng_rng IM.out.ok.g x)
        have HA := hide (fun W h h' => add_v IM.out W A1 os.length c1 A2 vs.length c2 h h' (by omega) (by omega) HXY.out.1.1 HXY.out.1.2 HXY.out.2.1 HXY.out.2.2)
        rw [hs] at HA
        have HN := hide (fun W h h' => neg_v IM.out W A1 os.length c1 A2 vs.length c2 h h' (by omega) (by omega) HXY.out.1.1 HXY.out.1.2)
        rw [ht] at HN
        have HO := hide (fun W h h' => add_v IM.out W A1 os.length c1 A2 vs.length c2 h h' (by omega) (by omega) HXY.out.1.1 HXY.out.1.2 HT.out.1 HT.out.2)
        rw [show Ar os x t = 0 by rw [← ht]; exact Ar_neg IM.out.ok.g x] at HO
        have HP := hide (fun W h h' => pair_v IM.out W A1 os.length c1 A2 vs.length c2 h h' (by omega) (by omega) HXY.out.2.1 HXY.out.2.2 HXY.out.1.1 HXY.out.1.2)
        rw [show Pr os (d : Int) vs y x = k by rw [Pr_comm IM.out]; exact HPV.out] at HP
        have Ha := hide (fun W h h' => pair_v IM.out W A1 os.length c1 A2 vs.length c2 h h' (by omega) (by omega) HS.out.1 HS.out.2 HZ.out.1 HZ.out.2)
        have Hb := hide (fun W h h' => pair_v IM.out W A1 os.length c1 A2 vs.length c2 h h' (by omega) (by omega) HXY.out.1.1 HXY.out.1.2 HZ.out.1 HZ.out.2)
        have He := hide (fun W h h' => pair_v IM.out W A1 os.length c1 A2 vs.length c2 h h' (by omega) (by omega) HXY.out.2.1 HXY.out.2.2 HZ.out.1 HZ.out.2)
        obtain ⟨pa, hpa⟩ : ∃ p, Pr os (d : Int) vs s z = p := ⟨_, rfl⟩
        obtain ⟨pb, hpb⟩ : ∃ p, Pr os (d : Int) vs x z = p := ⟨_, rfl⟩
        obtain ⟨pe, hpe⟩ : ∃ p, Pr os (d : Int) vs y z = p := ⟨_, rfl⟩
        have HLIN : Hid ((pb + pe - pa).tmod d = 0) := hide (by rw [← hpa, ← hpb, ← hpe, ← hs]; exact pair_lin IM.out HXY.out.1.1 HXY.out.1.2 HXY.out.2.1 HXY.out.2.2 HZ.out.1 HZ.out.2)
        have ra : 0 ≤ pa ∧ pa < d := by rw [← hpa]; exact Pr_rng IM.out.ok _ _
        have rb : 0 ≤ pb ∧ pb < d := by rw [← hpb]; exact Pr_rng IM.out.ok _ _
        have re : 0 ≤ pe ∧ pe < d := by rw [← hpe]; exact Pr_rng IM.out.ok _ _
        rw [hpa] at Ha
        rw [hpb] at Hb
        rw [hpe] at He
        clear hpa hpb hpe ht
        have Hu := hide (fun W h h' => val_v IM.out W A1 os.length c1 A2 vs.length c2 h h' (by omega) (by omega) HXY.out.1.1 HXY.out.1.2)
        have Hv := hide (fun W h h' => val_v IM.out W A1 os.length c1 A2 vs.length c2 h h' (by omega) (by omega) HXY.out.2.1 HXY.out.2.2)
        have Hw := hide (fun W h h' => val_v IM.out W A1 os.length c1 A2 vs.length c2 h h' (by omega) (by omega) HS.out.1 HS.out.2)
        obtain ⟨U, hU⟩ : ∃ p, rp (d : Int).toNat (Vl vs x) = p := ⟨_, rfl⟩
        obtain ⟨V, hV⟩ : ∃ p, rp (d : Int).toNat (Vl vs y) = p := ⟨_, rfl⟩
        obtain ⟨T, hT⟩ : ∃ p, rp (d : Int).toNat (Vl vs s) = p := ⟨_, rfl⟩
        obtain ⟨ru, hru⟩ : ∃ p, rtu d = p := ⟨_, rfl⟩
        obtain ⟨X, hX⟩ : ∃ p, pwr ru k = p := ⟨_, rfl⟩
        have HVS : Hid ((U : Int) * V % 55441 * (X : Int) % 55441 = T) := hide (by
          have := val_sum IM.out x y HPV.out
          rw [hs, hU, hV, hT, Int.toNat_natCast, hru, hX] at this
          exact this)
        have rU : U < 55441 := by rw [← hU]; exact rp_lt _ _
        have rV : V < 55441 := by rw [← hV]; exact rp_lt _ _
        have rR : ru < 55441 := by rw [← hru]; exact pwr_lt _ _
        have rX : X < 55441 := by rw [← hX]; exact pwr_lt _ _
        rw [hU] at Hu
        rw [hV] at Hv
        rw [hT] at Hw
        have HR := hide (fun W => rootU_any W d IM.out.ord)
        rw [hru] at HR
        have HPW := hide (fun W => power5_any W ru k rR (by omega))
        rw [hX] at HPW
        have Hor := hide (fun W h h' => ord_v IM.out W A1 os.length c1 A2 vs.length c2 h h' (by omega) (by omega) HXY.out.1.1 HXY.out.1.2)
        have HIS := hide (ordN_spec IM.out.ok.g x)
        obtain ⟨r, hr⟩ : ∃ r, ordN os x = r := ⟨_, rfl⟩
        rw [hr] at Hor HIS
        have hr1 : 1 ≤ r := HIS.out.pos
        have hr2 : r ≤ 16 := HIS.out.le
        clear hU hV hT hru hX hr hs
        have hMb := hM.b
        have x0 := hMb.cell 0
        have x1 := hMb.cell 1
        have x2 := hMb.cell 2
        go_wp2_with fail
        clear hMb x0 x1 x2
        refine (HA.out _ hM.s1 hM.s2).mono ?_
        rintro e wn ⟨rfl, hbn⟩
        (try replace hM := hM.all hbn)
        clear hbn HA
        have hMb := hM.b
        have x0 := hMb.cell 0
        have x1 := hMb.cell 1
        have x2 := hMb.cell 2
        go_wp2_with fail
        clear hMb x0 x1 x2
        refine (HN.out _ hM.s1 hM.s2).mono ?_
        rintro e wn ⟨rfl, hbn⟩
        (try replace hM := hM.all hbn)
        clear hbn HN
        have hMb := hM.b
        have x0 := hMb.cell 0
        have x1 := hMb.cell 1
        have x2 := hMb.cell 2
        go_wp2_with fail
        clear hMb x0 x1 x2
        refine (HO.out _ hM.s1 hM.s2).mono ?_
        rintro e wn ⟨rfl, hbn⟩
        (try replace hM := hM.all hbn)
        clear hbn HO
        have hMb := hM.b
        have x0 := hMb.cell 0
        have x1 := hMb.cell 1
        have x2 := hMb.cell 2
        go_wp2_with fail
        clear hMb x0 x1 x2
        refine (HP.out _ hM.s1 hM.s2).mono ?_
        rintro e wn ⟨rfl, hbn⟩
        (try replace hM := hM.all hbn)
        clear hbn HP
        have hMb := hM.b
        have x0 := hMb.cell 0
        have x1 := hMb.cell 1
        have x2 := hMb.cell 2
        go_wp2_with fail
        clear hMb x0 x1 x2
        refine (Ha.out _ hM.s1 hM.s2).mono ?_
        rintro e wn ⟨rfl, hbn⟩
        (try replace hM := hM.all hbn)
        clear hbn Ha
        have hMb := hM.b
        have x0 := hMb.cell 0
        have x1 := hMb.cell 1
        have x2 := hMb.cell 2
        go_wp2_with fail
        clear hMb x0 x1 x2
        refine (Hb.out _ hM.s1 hM.s2).mono ?_
        rintro e wn ⟨rfl, hbn⟩
        (try replace hM := hM.all hbn)
        clear hbn Hb
        have hMb := hM.b
        have x0 := hMb.cell 0
        have x1 := hMb.cell 1
        have x2 := hMb.cell 2
        go_wp2_with fail
        clear hMb x0 x1 x2
        refine (He.out _ hM.s1 hM.s2).mono ?_
        rintro e wn ⟨rfl, hbn⟩
        (try replace hM := hM.all hbn)
        clear hbn He
        have hMb := hM.b
        have x0 := hMb.cell 0
        have x1 := hMb.cell 1
        have x2 := hMb.cell 2
        go_wp2_with fail
        clear hMb x0 x1 x2
        refine (Hu.out _ hM.s1 hM.s2).mono ?_
        rintro e wn ⟨rfl, hbn⟩
        (try replace hM := hM.all hbn)
        clear hbn Hu
        have hMb := hM.b
        have x0 := hMb.cell 0
        have x1 := hMb.cell 1
        have x2 := hMb.cell 2
        go_wp2_with fail
        clear hMb x0 x1 x2
        refine (Hv.out _ hM.s1 hM.s2).mono ?_
        rintro e wn ⟨rfl, hbn⟩
        (try replace hM := hM.all hbn)
        clear hbn Hv
        have hMb := hM.b
        have x0 := hMb.cell 0
        have x1 := hMb.cell 1
        have x2 := hMb.cell 2
        go_wp2_with fail
        clear hMb x0 x1 x2
        refine (Hw.out _ hM.s1 hM.s2).mono ?_
        rintro e wn ⟨rfl, hbn⟩
        (try replace hM := hM.all hbn)
        clear hbn Hw
        have hMb := hM.b
        have x0 := hMb.cell 0
        have x1 := hMb.cell 1
        have x2 := hMb.cell 2
        go_wp2_with fail
        clear hMb x0 x1 x2
        refine (HR.out _).mono ?_
        rintro e wn ⟨rfl, hbn⟩
        (try replace hM := hM.all hbn)
        clear hbn HR
        have hMb := hM.b
        have x0 := hMb.cell 0
        have x1 := hMb.cell 1
        have x2 := hMb.cell 2
        go_wp2_with fail
        clear hMb x0 x1 x2
        refine (Hor.out _ hM.s1 hM.s2).mono ?_
        rintro e wn ⟨rfl, hbn⟩
        (try replace hM := hM.all hbn)
        clear hbn Hor
        have hMb := hM.b
        have c1' := hMb.cell 1
        have hMl := hMb.lt
        clear hMb
        have q1 : IntKind.i64.wrap (pb + pe) = pb + pe := wr64 _ ⟨by omega, by omega⟩
        have q2 : IntKind.i64.wrap (pb + pe - pa) = pb + pe - pa := wr64 _ ⟨by omega, by omega⟩
        have q3 : ¬ (d : Int) = 0 := by omega
        have q4 := HLIN.out
        have huv : U * V ≤ 55440 * 55440 := Nat.mul_le_mul (by omega) (by omega)
        obtain ⟨P, hP⟩ : ∃ P, U * V = P := ⟨_, rfl⟩
        have q5 : IntKind.i64.wrap ((U : Int) * (V : Int)) = (P : Int) := by
          rw [show (U : Int) * (V : Int) = ((U * V : Nat) : Int) by simp, hP]
          exact wr64 _ ⟨by omega, by omega⟩
        have HM1 := hide (fun W => mod5_any W (P : Int) (by omega) (by omega))
        obtain ⟨Y, hY⟩ : ∃ Y, P % 55441 = Y := ⟨_, rfl⟩
        have hY1 : Y < 55441 := by omega
        rw [show (P : Int) % 55441 = (Y : Int) by rw [← hY]; rfl] at HM1
        have hyx : Y * X ≤ 55440 * 55440 := Nat.mul_le_mul (by omega) (by omega)
        obtain ⟨G, hG9⟩ : ∃ G, Y * X = G := ⟨_, rfl⟩
        have q6 : IntKind.i64.wrap ((Y : Int) * (X : Int)) = (G : Int) := by
          rw [show (Y : Int) * (X : Int) = ((Y * X : Nat) : Int) by simp, hG9]
          exact wr64 _ ⟨by omega, by omega⟩
        have HM2 := hide (fun W => mod5_any W (G : Int) (by omega) (by omega))
        rw [show (G : Int) % 55441 = (T : Int) by
          rw [← HVS.out, ← hG9, show (U : Int) * (V : Int) = ((U * V : Nat) : Int) by simp, hP, ← hY]
          simp] at HM2
        have q7 : ¬ (r : Int) < 1 := by omega
        clear hP hY hG9 huv hyx rU rV rR rX ra rb re HLIN HVS HL
        go_wp2_with fail
        refine (HM1.out _).mono ?_
        rintro e wm1 ⟨rfl, m1, rfl⟩
        go_wp2_with fail
        refine (HPW.out _).mono ?_
        rintro e wm1 ⟨rfl, m2, rfl⟩
        go_wp2_with fail
        refine (HM2.out _).mono ?_
        rintro e wm1 ⟨rfl, m3, rfl⟩
        clear HM1 HM2 HPW c1' hMl q1 q2 q3 q4 q5 q6
        go_wp2_with fail
        clear q7
        go_loopw [53, 54] (fun now i wr => ∃ j : Nat, j ≤ r ∧ i = .int .i64 j ∧ now = .int .i64 (Mu os j x) ∧ GK w w2.heap.size A1 c1 A2 c2 os d vs wr) (fun _ i _ => r - (intOf i).toNat)
        case atStart => exact ⟨0, by omega, rfl, by rw [Mu_0], hM.all (below_drewN (Below.refl _ _) _)⟩
        case round =>
          clear hM
          obtain ⟨j, hj, rfl, rfl, hM⟩ := hrel
          by_cases hlt : j < r
          · have HRG := hide (Mu_rng IM.out.ok.g x j)
            have HAD := hide (fun W h h' => add_v IM.out W A1 os.length c1 A2 vs.length c2 h h' (by omega) (by omega) HRG.out.1 HRG.out.2 HXY.out.1.1 HXY.out.1.2)
            rw [Mu_succ IM.out.ok.g] at HAD
            have hne : 1 ≤ j → Mu os j x ≠ 0 := fun h => HIS.out.ne j h hlt
            obtain ⟨mu, hmu⟩ : ∃ mu, Mu os j x = mu := ⟨_, rfl⟩
            obtain ⟨nu, hnu⟩ : ∃ nu, Mu os ((j : Int) + 1) x = nu := ⟨_, rfl⟩
            rw [hmu, hnu] at HAD
            rw [hmu] at hne ⊢
            have HNU := hide hnu
            clear hmu hnu HRG
            have hMb := hM.b
            have x0 := hMb.cell 0
            have x1 := hMb.cell 1
            have x2 := hMb.cell 2
            by_cases hj0 : j = 0
            · have g0 : ¬ 0 < (j : Int) := by omega
              go_wp2_with fail
              clear hMb x0 x1 x2
              refine (HAD.out _ hM.s1 hM.s2).mono ?_
              rintro e wn ⟨rfl, hbn⟩
              replace hM := hM.all hbn
              clear hbn
              go_wp2_with fail
              go_roundw
              case rel => exact ⟨j + 1, by omega, by go_num, by rw [← HNU.out]; rfl, hM⟩
              case measure => simp [intOf] <;> omega
            · have g0 : 0 < (j : Int) := by omega
              have g1 : ¬ mu = 0 := hne (by omega)
              go_wp2_with fail
              clear hMb x0 x1 x2
              refine (HAD.out _ hM.s1 hM.s2).mono ?_
              rintro e wn ⟨rfl, hbn⟩
              replace hM := hM.all hbn
              clear hbn
              go_wp2_with fail
              go_roundw
              case rel => exact ⟨j + 1, by omega, by go_num, by rw [← HNU.out]; rfl, hM⟩
              case measure => simp [intOf] <;> omega
          · have hjr : r = j := by omega
            subst hjr
            rw [HIS.out.zero]
            go_wp2_with fail
            go_ret
            exact ⟨rfl, hM.kk⟩
      · go_wp2_with fail
        go_ret
        exact ⟨rfl, hM.kk⟩
end Go.Proofs.Ytnoemhmmaicakaa
