
/- The walks of l10Image and imagesBy. -/
import Derived.Test.YtkekgipeagchcaaIM2
import Derived.Test.YtkekgipeagchcaaC2
import Derived.Test.YtkekgipeagchcaaI5
namespace Go.Proofs.Ytkekgipeagchcaa
open Go Go.RowKit Grp
set_option linter.unusedSimpArgs false
set_option linter.unusedVariables false
set_option maxRecDepth 100000
set_option maxHeartbeats 4000000 in
theorem l10Image_any (w : World) (B : Nat) (A : Option Addr) (n c : Nat) (os : List Int) (A2 : Option Addr) (n2 c2 : Nat) (ps : List Int) (A3 : Option Addr) (n3 c3 : Nat) (im : List Int) (x : Nat)
    (h : Sl w B A n c os) (h2 : Sl w B A2 n2 c2 ps) (h3 : Sl w B A3 n3 c3 im) (hB : B ≤ w.heap.size) (hG : OkG os) (hG2 : OkG ps) (hl : im.length = os.length) (hi : ∀ y ∈ im, 0 ≤ y ∧ y ≤ 1000000) (hx : x ≤ 1000000) :
    Calls Try.prog 94 #[.slice A n c, .slice A2 n2 c2, .slice A3 n3 c3, .int .i64 x] w (Re w (.int .i64 (imF os ps im x))) := by
  obtain rfl := h.len
  obtain rfl := h3.len
  have h4 := hG.l4
  have h1 := hG.l1
  have hp16 := hG2.p16
  have hF := hide (show imF os ps im x = imT ps (Dg os x) im os.length from rfl)
  obtain ⟨L, hL⟩ : ∃ L, os.length = L := ⟨_, rfl⟩
  have HL := hide hL
  have hD := hide (l10Digits_any w B A os.length c os x h hB hG (by omega) (by omega))
  have hdl := Dg_length os (x : Int)
  have hdr : ∀ k, k < os.length → 0 ≤ gi (Dg os (x : Int)) k ∧ gi (Dg os (x : Int)) k < gi os k := fun k hk => Dg_rng hG (by omega) hk
  have hdm : ∀ k, k < os.length → gi os k ≤ 16 := fun k hk => hG.m16 _ (gi_mem hk)
  obtain ⟨tu, htu⟩ : ∃ tu, Dg os (x : Int) = tu := ⟨_, rfl⟩
  rw [htu] at hD hdl hdr hF
  have HD := hide hdr
  have HM := hide hdm
  rw [hl, hL]
  rw [hL] at hD hdl h4 h1 h hF hl
  clear htu hdr hdm hL
  go_enter Try.func94, Try.ntmps94
  go_wp2_with fail
  refine hD.out.mono ?_
  rintro e w1 ⟨v, rfl, hO, hb1⟩
  have hti : ∀ y ∈ tu, i64ok y := fun y hy => by
    obtain ⟨j, hj, rfl⟩ := List.getElem_of_mem hy
    have := HD.out j (by rw [HL.out]; omega)
    have := HM.out j (by rw [HL.out]; omega)
    rw [gi_ext hj]
    exact ⟨by omega, by omega⟩
  obtain ⟨At, ct, rfl, hT⟩ := hO.sl hti
  rw [hdl] at hT ⊢
  have hs1 := hb1.size
  have hr0 := imT_rng hG2 tu im 0
  have h2' := (h2.below (hb1.mono hB)).more (Nat.le_trans hB hs1)
  have h3' := (h3.below (hb1.mono hB)).more (Nat.le_trans hB hs1)
  clear hO hD
  go_wp2_with fail
  go_loopw [10, 11] (fun ov i wr => ∃ k : Nat, k ≤ L ∧ i = .int .i64 k ∧ ov = .int .i64 (imT ps tu im k) ∧ Below w1.heap.size w1 wr) (fun _ i _ => L - (intOf i).toNat)
  case atStart => exact ⟨0, by omega, rfl, rfl, Below.refl _ _⟩
  case round =>
    obtain ⟨k, hk, rfl, rfl, hBe⟩ := hrel
    have hsz := hBe.size
    by_cases hlt : k < L
    · obtain ⟨b, off, rfl, hb, hc⟩ := hT.at_ (by omega)
      have c1 := (hBe.cell (p := ⟨b, off + k, none⟩) hb).trans (hc k hlt)
      obtain ⟨b3, off3, rfl, hb3, hc3⟩ := h3'.at_ (by omega)
      clear hc
      have r1 := HD.out k (by rw [HL.out]; omega)
      have r2 := HM.out k (by rw [HL.out]; omega)
      have r3 := hi _ (gi_mem (show k < im.length by omega))
      have HS := hide (show imT ps tu im (k + 1) = addT ps (gi im k) (gi tu k).toNat (imT ps tu im k) from rfl)
      have hr := imT_rng hG2 tu im k
      obtain ⟨t, ht⟩ : ∃ t : Nat, gi tu k = t := ⟨(gi tu k).toNat, by omega⟩
      obtain ⟨y, hy⟩ : ∃ y, gi im k = y := ⟨_, rfl⟩
      obtain ⟨o, ho⟩ : ∃ o, imT ps tu im k = o := ⟨_, rfl⟩
      rw [ht, hy, ho, Int.toNat_natCast] at HS
      rw [ht] at c1 r1
      rw [hy] at r3
      rw [ho] at hr ⊢
      have ht16 : t ≤ 16 := by omega
      have HC := hide (show w1.cell? ⟨b3, off3 + k, none⟩ = some (.int .i64 y) by rw [← hy]; exact hc3 k (by omega))
      clear ht hy ho hc3
      go_wp2_with fail
      clear c1
      go_loopw [10, 12] (fun ov i wr => ∃ j q : Nat, j + q = t ∧ i = .int .i64 q ∧ ov = .int .i64 (addT ps y j o) ∧ Below w1.heap.size w1 wr) (fun _ i _ => (intOf i).toNat)
      case atStart => exact ⟨0, t, by omega, rfl, rfl, hBe⟩
      case round =>
        clear hBe hsz
        obtain ⟨j, q, hj, rfl, rfl, hBe⟩ := hrel
        have hsz := hBe.size
        have hra := addT_rng hG2 y j hr.1 hr.2
        have HSn := hide (show addT ps y (j + 1) o = Ar ps (addT ps y j o) y from rfl)
        obtain ⟨a, ha⟩ : ∃ a, addT ps y j o = a := ⟨_, rfl⟩
        rw [ha] at hra HSn ⊢
        have HA := hide ha
        clear ha
        by_cases hjt : 0 < q
        · have c3' := (hBe.cell (p := ⟨b3, off3 + k, none⟩) hb3).trans HC.out
          have hq1 : (0 : Int) < q := by omega
          go_wp2_with fail
          clear c3'
          refine (l10Add_any wr w1.heap.size _ _ _ ps a y (h2'.below hBe) hG2 (by omega) (by omega) (by omega) (by omega)).mono ?_
          rintro e w5 ⟨rfl, dm, rfl⟩
          obtain ⟨z, hz⟩ : ∃ z, Ar ps a y = z := ⟨_, rfl⟩
          rw [hz] at HSn ⊢
          clear hz
          have hB5 : Below w1.heap.size w1 (wr.drewN dm) := below_drewN hBe _
          go_wp2_with fail
          go_roundw
          case rel => exact ⟨j + 1, q - 1, by omega, by go_num, by rw [HSn.out], hB5⟩
          case measure => simp [intOf] <;> omega
        · obtain rfl : q = 0 := by omega
          obtain rfl : j = t := by omega
          go_wp2_with fail
          go_roundw
          case rel => exact ⟨k + 1, by omega, by go_num, by rw [HS.out, HA.out], hBe⟩
          case measure => simp [intOf] <;> omega
    · obtain rfl : k = L := by omega
      go_wp2_with fail
      go_ret
      exact ⟨by rw [hF.out]; rfl, hb1.trans (hBe.mono hs1)⟩
set_option maxHeartbeats 4000000 in
theorem imagesBy_any (w : World) (A : Option Addr) (n c : Nat) (os : List Int) (A2 : Option Addr) (n2 c2 : Nat) (ps : List Int) (E : Int) (Bq : Option Addr) (mq kq : Nat) (A3 : Option Addr) (n3 c3 : Nat) (im : List Int)
    (h : Sl w w.heap.size A n c os) (h2 : Sl w w.heap.size A2 n2 c2 ps) (h3 : Sl w w.heap.size A3 n3 c3 im) (hG : OkG os) (hG2 : OkG ps) (hl : im.length = os.length) (hi : ∀ y ∈ im, 0 ≤ y ∧ y ≤ 1000000) :
    Calls Try.prog 57 #[.slice A n c, .agg #[.slice A2 n2 c2, .int .i64 E, .slice Bq mq kq], .slice A3 n3 c3] w (Mk w ((List.range (prodL os).toNat).map fun (x : Nat) => imF os ps im x)) := by
  obtain rfl := h.len
  obtain rfl := h3.len
  have h4 := hG.l4
  have h1 := hG.l1
  have hp16 := hG2.p16
  have hq16 := hG.p16
  have hq1 := prodL_pos hG.pos
  obtain ⟨L, hL⟩ : ∃ L, os.length = L := ⟨_, rfl⟩
  obtain ⟨M, hM⟩ : ∃ M : Nat, prodL os = M := ⟨(prodL os).toNat, by omega⟩
  have hgs := fun W B (hW : Sl W B A os.length c os) => groupSize_any W B A os.length c os hW (by omega)
  have hgz : gsz os = M := by rw [gsz_ok hG, hM]
  rw [hgz, hL] at hgs
  have HGS := hide hgs
  have hMM : (prodL os).toNat = M := by omega
  rw [hMM]
  have HL := hide hL
  have hM16 : M ≤ 16 := by omega
  rw [hl, hL]
  rw [hL] at h h4 h1 hl
  clear hgs hgz hMM hL hM hq16 hq1
  go_enter Try.func57, Try.ntmps57
  go_wp2_with fail
  have hO0 : Ow ((w.alloc (.cells #[.slice A2 n2 c2, .int .i64 E, .slice Bq mq kq] 28)).alloc (.cells #[] 2)) w.heap.size (.slice (some ⟨w.heap.size + 1, 0, none⟩) 0 0) ((List.range 0).map fun (x : Nat) => imF os ps im x) := Ow.made' (xs := []) _ _ (w.heap.size + 1) 0 (by simp) rfl (by omega) rfl (by unfold maxLen; omega)
  have bN0 : Blk ((w.alloc (.cells #[.slice A2 n2 c2, .int .i64 E, .slice Bq mq kq] 28)).alloc (.cells #[] 2)) w.heap.size 28 #[.slice A2 n2 c2, .int .i64 E, .slice Bq mq kq] := (Blk.new _ _ _).alloc _
  have hB0 : Below w.heap.size w ((w.alloc (.cells #[.slice A2 n2 c2, .int .i64 E, .slice Bq mq kq] 28)).alloc (.cells #[] 2)) := (by repeat (first | assumption | exact Below.refl _ _ | apply below_drewN | apply Below.drew | apply Below.alloc | apply Below.setCell | omega | (focus (simp; done)) | (focus (simp; omega))))
  obtain ⟨W, hW⟩ : ∃ W, (w.alloc (.cells #[.slice A2 n2 c2, .int .i64 E, .slice Bq mq kq] 28)).alloc (.cells #[] 2) = W := ⟨_, rfl⟩
  rw [hW] at hO0 bN0 hB0 ⊢
  clear hW
  refine (HGS.out _ _ (h.below hB0)).mono ?_
  rintro e w1 ⟨rfl, d, rfl⟩
  obtain ⟨w1, hw1⟩ : ∃ w1, W.drewN d = w1 := ⟨_, rfl⟩
  have hO1 : Ow w1 w.heap.size (.slice (some ⟨w.heap.size + 1, 0, none⟩) 0 0) ((List.range 0).map fun (x : Nat) => imF os ps im x) := by rw [← hw1]; exact hO0.drewN _
  have bN1 := bN0.drewN d
  have hB1 : Below w.heap.size w w1 := by rw [← hw1]; exact below_drewN hB0 _
  rw [hw1] at bN1 ⊢
  clear hw1 hO0 bN0 hB0
  go_wp2_with fail
  go_loopw [7, 15] (fun ov i wr => ∃ k : Nat, k ≤ M ∧ i = .int .i64 k ∧ Ow wr w.heap.size ov ((List.range k).map fun (x : Nat) => imF os ps im x) ∧ Blk wr w.heap.size 28 #[.slice A2 n2 c2, .int .i64 E, .slice Bq mq kq] ∧ Below w.heap.size w wr) (fun _ i _ => M - (intOf i).toNat)
  case atStart => exact ⟨0, by omega, rfl, hO1, bN1, hB1⟩
  case round =>
    clear hO1 bN1 hB1
    obtain ⟨k, hk, rfl, hO, bN, hBe⟩ := hrel
    have hsz := hBe.size
    by_cases hlt : k < M
    · have hdl := Dg_length os (k : Int)
      have hdr : ∀ j, j < os.length → 0 ≤ gi (Dg os (k : Int)) j ∧ gi (Dg os (k : Int)) j < gi os j := fun j hj => Dg_rng hG (by omega) hj
      have hdm : ∀ j, j < os.length → gi os j ≤ 16 := fun j hj => hG.m16 _ (gi_mem hj)
      have hTU := hide (tupleOf_any wr A L c os k hG (by omega) (by omega) ((h.below hBe).more hsz))
      have HS := hide (show ((List.range (k + 1)).map fun (x : Nat) => imF os ps im x) = ((List.range k).map fun (x : Nat) => imF os ps im x) ++ [imT ps (Dg os (k : Int)) im os.length] by rw [List.range_succ, List.map_append]; rfl)
      obtain ⟨tu, htu⟩ : ∃ tu, Dg os (k : Int) = tu := ⟨_, rfl⟩
      obtain ⟨xs, hxs⟩ : ∃ xs, ((List.range k).map fun (x : Nat) => imF os ps im x) = xs := ⟨_, rfl⟩
      have hxl : xs.length = k := by rw [← hxs]; simp
      rw [hxs] at hO HS
      rw [htu] at hTU hdl hdr HS
      have HD := hide hdr
      have HM := hide hdm
      rw [HL.out] at HS hdl
      clear htu hdr hdm hxs
      go_wp2_with fail
      refine hTU.out.mono ?_
      rintro e w5 ⟨v, rfl, hOt, hb5⟩
      have hti : ∀ y ∈ tu, i64ok y := fun y hy => by
        obtain ⟨j, hj, rfl⟩ := List.getElem_of_mem hy
        have := HD.out j (by rw [HL.out]; omega)
        have := HM.out j (by rw [HL.out]; omega)
        rw [gi_ext hj]
        exact ⟨by omega, by omega⟩
      obtain ⟨At, ct, rfl, hT⟩ := hOt.sl hti
      rw [hdl] at hT ⊢
      have hO5 := hO.below hb5
      have hB5 := hBe.trans (hb5.mono hsz)
      have bN5 := bN.all hb5
      have hs5 := hB5.size
      have h2' := (h2.below hB5).more hs5
      have h3' := (h3.below hB5).more hs5
      have hr0 := imT_rng hG2 tu im 0
      have hbn := bN5.lt
      clear hTU hOt hO hBe bN hb5 hsz
      go_wp2_with fail
      have q0 := bN5.cell 0
      have q1 := bN5.cell 1
      have q2 := bN5.cell 2
      go_loopw [9, 22] (fun ov i wx => ∃ p : Nat, p ≤ L ∧ i = .int .i64 p ∧ ov = .int .i64 (imT ps tu im p) ∧ Below w5.heap.size w5 wx) (fun _ i _ => L - (intOf i).toNat)
      case atStart => exact ⟨0, by omega, rfl, rfl, Below.refl _ _⟩
      case round =>
        obtain ⟨p, hp, rfl, rfl, hBe⟩ := hrel
        have hsz := hBe.size
        by_cases hlp : p < L
        · obtain ⟨b, off, rfl, hb, hc⟩ := hT.at_ (by omega)
          have c1 := (hBe.cell (p := ⟨b, off + p, none⟩) hb).trans (hc p hlp)
          obtain ⟨b3, off3, rfl, hb3, hc3⟩ := h3'.at_ (by omega)
          clear hc
          have r1 := HD.out p (by rw [HL.out]; omega)
          have r2 := HM.out p (by rw [HL.out]; omega)
          have r3 := hi _ (gi_mem (show p < im.length by omega))
          have HSi := hide (show imT ps tu im (p + 1) = addT ps (gi im p) (gi tu p).toNat (imT ps tu im p) from rfl)
          have hr := imT_rng hG2 tu im p
          obtain ⟨t, ht⟩ : ∃ t : Nat, gi tu p = t := ⟨(gi tu p).toNat, by omega⟩
          obtain ⟨y, hy⟩ : ∃ y, gi im p = y := ⟨_, rfl⟩
          obtain ⟨o, ho⟩ : ∃ o, imT ps tu im p = o := ⟨_, rfl⟩
          rw [ht, hy, ho, Int.toNat_natCast] at HSi
          rw [ht] at c1 r1
          rw [hy] at r3
          rw [ho] at hr ⊢
          have ht16 : t ≤ 16 := by omega
          have HC := hide (show w5.cell? ⟨b3, off3 + p, none⟩ = some (.int .i64 y) by rw [← hy]; exact hc3 p (by omega))
          clear ht hy ho hc3
          go_wp2_with fail
          clear c1
          go_loopw [9, 28] (fun ov i wx => ∃ j : Nat, j ≤ t ∧ i = .int .i64 j ∧ ov = .int .i64 (addT ps y j o) ∧ Below w5.heap.size w5 wx) (fun _ i _ => t - (intOf i).toNat)
          case atStart => exact ⟨0, by omega, rfl, rfl, hBe⟩
          case round =>
            clear hBe hsz
            obtain ⟨j, hj, rfl, rfl, hBe⟩ := hrel
            have hsz := hBe.size
            have hra := addT_rng hG2 y j hr.1 hr.2
            have HSn := hide (show addT ps y (j + 1) o = Ar ps (addT ps y j o) y from rfl)
            obtain ⟨a, ha⟩ : ∃ a, addT ps y j o = a := ⟨_, rfl⟩
            rw [ha] at hra HSn ⊢
            have HA := hide ha
            clear ha
            by_cases hjt : j < t
            · have i0 : (0 : Int) ≤ p := by omega
              have i1 : (p : Int) < L := by omega
              have i2 : (p : Int) < (im.length : Int) := by omega
              go_wp2_with fail
              refine wp_region_be [0, 1, 2, 3, 4, 5, 6, 7] 7 w5.heap.size w5 (by kernel_rfl) (by kernel_rfl) (by kernel_rfl) (fun _ _ _ _ _ h => h) hBe (fun wd hBe => ?_)
              repeat (first | (apply ord_tk rfl (by rfl) (by rfl) (by rfl); (focus (intro wx hSw; have s0 := (hSw.cell (p := ⟨w.heap.size, 0, none⟩) hbn).trans q0; have s1 := (hSw.cell (p := ⟨w.heap.size, 1, none⟩) hbn).trans q1; have s2 := (hSw.cell (p := ⟨w.heap.size, 2, none⟩) hbn).trans q2; have s3 := (hSw.cell (p := ⟨b3, off3 + p, none⟩) hb3).trans HC.out; go_simp; (try with_reducible rfl))); (try simp only [Act.put, List.setIfInBounds_toArray, List.set_cons_zero, List.set_cons_succ])) | (apply ord_skip rfl (by rfl) (by rfl) (fun _ => hBe); (try simp only [Act.put, List.setIfInBounds_toArray, List.set_cons_zero, List.set_cons_succ])))
              refine ord_do rfl (by rfl) (by rfl) (fun K hK => ?_)
              go_simp
              refine (plus_any _ _ _ _ _ _ ps a y ((h2'.below hBe).more hBe.size) hG2 (by omega) (by omega) (by omega) (by omega)).mono ?_
              rintro e wd' ⟨rfl, hwd⟩
              replace hBe := hBe.trans (hwd.mono hBe.size)
              clear hwd
              refine hK.out _ _ (fun _ => hBe) ?_
              (try simp only [Act.put, List.setIfInBounds_toArray, List.set_cons_zero, List.set_cons_succ])
              clear hK K
              repeat (first | (apply ord_tk rfl (by rfl) (by rfl) (by rfl); (focus (intro wx hSw; skip; go_simp; (try with_reducible rfl))); (try simp only [Act.put, List.setIfInBounds_toArray, List.set_cons_zero, List.set_cons_succ])) | (apply ord_skip rfl (by rfl) (by rfl) (fun _ => hBe); (try simp only [Act.put, List.setIfInBounds_toArray, List.set_cons_zero, List.set_cons_succ])))
              refine ord_do rfl (by rfl) (by rfl) (fun K hK => ?_)
              go_simp
              refine hK.out _ _ (fun h => absurd h (by omega)) ?_
              (try simp only [Act.put, List.setIfInBounds_toArray, List.set_cons_zero, List.set_cons_succ])
              clear hK K
              refine ord_nil ?_
              obtain ⟨z, hz⟩ : ∃ z, Ar ps a y = z := ⟨_, rfl⟩
              rw [hz] at HSn ⊢
              clear hz
              go_wp2_with fail
              go_roundw
              case rel => exact ⟨j + 1, by omega, by go_num, by rw [HSn.out], hBe⟩
              case measure => simp [intOf] <;> omega
            · obtain rfl : j = t := by omega
              go_wp2_with fail
              go_roundw
              case rel => exact ⟨p + 1, by omega, by go_num, by rw [HSi.out, HA.out], hBe⟩
              case measure => simp [intOf] <;> omega
        · obtain rfl : p = L := by omega
          have hlen : xs.length = k := hxl
          have hr := imT_rng hG2 tu im p
          obtain ⟨z, hz⟩ : ∃ z, imT ps tu im p = z := ⟨_, rfl⟩
          rw [hz] at HS hr ⊢
          have hO6 := hO5.below hBe
          have hB6 := hB5.trans (hBe.mono hs5)
          have bN6 := bN5.all hBe
          have hs6 := hB6.size
          clear hz hO5 hB5 bN5 q0 q1 q2
          go_wp2_with (at_builtin; refine list_push _ rfl _ _ rfl w.heap.size _ _ rfl (hO6.alloc _) z wr.heap.size _ rfl (Blk.new _ _ _) (by rw [hlen]; omega) (by simp; omega) (by simp) ?_; intro g cap w8 hP)
          have hown := hP.own
          rw [← HS.out, hlen] at hown
          have HOw := hide hown
          have hbp := hP.below (hO6.alloc _) (by simp; omega)
          have hB7 := (hB6.alloc hs6 (.cells #[.int .i64 z] 2)).trans hbp
          have bN7 := hP.blk (hO6.alloc _) (bN6.alloc _) (by decide)
          clear hown hP hO6 hlen
          go_roundw
          case rel => exact ⟨k + 1, by omega, by go_num, HOw.out, bN7, hB7⟩
          case measure => simp [intOf] <;> omega
    · obtain rfl : k = M := by omega
      go_wp2_with fail
      go_ret
      exact ⟨_, rfl, hO, hBe⟩
end Go.Proofs.Ytkekgipeagchcaa
