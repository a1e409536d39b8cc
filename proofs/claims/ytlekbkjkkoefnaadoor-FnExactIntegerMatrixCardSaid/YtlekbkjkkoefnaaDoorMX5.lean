
/- Integer matrices of words: the reference's l16Integers and IntegerMatrix. -/
import Derived.Test.YtlekbkjkkoefnaaDoorMX4
namespace Go.Proofs.YtlekbkjkkoefnaaDoor
open Go Go.RowKit
set_option linter.unusedSimpArgs false
set_option linter.unusedVariables false
set_option maxRecDepth 100000
theorem mt2_take {m : List (List Int)} {a b c d : Int} (h : m = mt2 a b c d) {x y : Nat} (hx : x < 2) (hy : y < 2) : (m.getD x []).take y ++ [en m x y] = (m.getD x []).take (y + 1) := by
  subst h
  rcases two_cases hx with rfl | rfl <;> rcases two_cases hy with rfl | rfl <;> rfl
theorem mt2_takeR {m : List (List Int)} {a b c d : Int} (h : m = mt2 a b c d) {x : Nat} (hx : x < 2) : m.take x ++ [(m.getD x []).take 2] = m.take (x + 1) := by
  subst h
  rcases two_cases hx with rfl | rfl <;> rfl
theorem mmul_en (a b c d p q r t : Int) {x y : Nat} (hx : x < 2) (hy : y < 2) : en (mt2 a b c d) x 0 * en (mt2 p q r t) 0 y + en (mt2 a b c d) x 1 * en (mt2 p q r t) 1 y = en (mt2 (a * p + b * r) (a * q + b * t) (c * p + d * r) (c * q + d * t)) x y := by
  rcases two_cases hx with rfl | rfl <;> rcases two_cases hy with rfl | rfl <;> rfl
theorem okW_iff {a b c d : Int} : okW (mt2 a b c d) = true ↔ ∀ x y, x < 2 → y < 2 → inB (en (mt2 a b c d) x y) (-999999999999) 999999999999 = true := by
  constructor
  · intro h x y hx hy
    have h0 := List.all_eq_true.1 h _ (show (mt2 a b c d).getD x [] ∈ mt2 a b c d by rcases two_cases hx with rfl | rfl <;> simp [mt2])
    exact List.all_eq_true.1 h0 _ (show en (mt2 a b c d) x y ∈ _ by rcases two_cases hx with rfl | rfl <;> rcases two_cases hy with rfl | rfl <;> simp [mt2, en, gi])
  · intro h
    have h1 := h 0 0 (by omega) (by omega)
    have h2 := h 0 1 (by omega) (by omega)
    have h3 := h 1 0 (by omega) (by omega)
    have h4 := h 1 1 (by omega) (by omega)
    simp only [mt2, en, gi, List.getD_cons_zero, List.getD_cons_succ] at h1 h2 h3 h4
    simp only [okW, mt2, allIn, List.all_cons, List.all_nil, Bool.and_true, h1, h2, h3, h4]
/-- What l16Integers returns. -/
def MkB {α : Type} (E : Own α) (w : World) (x : α) (b : Bool) (e : Ending) (w' : World) : Prop := ∃ v, e = .returned (.tuple #[v, .bool b]) ∧ E w' v x (fun b => w.heap.size ≤ b ∧ b < w'.heap.size) ∧ Below w.heap.size w w'
set_option maxHeartbeats 16000000 in
theorem l16Integers_any (w : World) (s : ByteArray) (hs : s.size ≤ 60) : Calls Tryd.prog 54 #[.string s] w (MkB E2 w ((wordM s s.size).getD []) (wordM s s.size).isSome) := by
  obtain ⟨n, hn⟩ : ∃ n, s.size = n := ⟨_, rfl⟩
  have HN := hide hn
  have hE0 := (E2.two' w _ rfl 1 0 0 1 ⟨by omega, by omega⟩ ⟨by omega, by omega⟩ ⟨by omega, by omega⟩ ⟨by omega, by omega⟩).mono (fq := fun b => w.heap.size ≤ b ∧ b < (((w.alloc (.cells #[.int .i64 1, .int .i64 0] 2)).alloc (.cells #[.int .i64 0, .int .i64 1] 2)).alloc (.cells #[.slice (some ⟨w.heap.size, 0, none⟩) 2 2, .slice (some ⟨w.heap.size + 1, 0, none⟩) 2 2] 22)).heap.size) (fun b hb => ⟨hb.1, by simp; omega⟩) (fun b hb => hb.2)
  go_enter Tryd.func54, Tryd.ntmps54
  go_wp2_with fail
  go_loopw [4, 5] (fun mm i wr => ∃ (k : Nat) (M : List (List Int)), k ≤ n ∧ i = .int .i64 k ∧ Hid (wordM s k = some M) ∧ E2 wr mm M (fun b => w.heap.size ≤ b ∧ b < wr.heap.size) ∧ Below w.heap.size w wr) (fun _ i _ => n - (intOf i).toNat)
  case atStart => exact ⟨0, _, by omega, rfl, hide rfl, hE0, (by repeat (first | assumption | exact Below.refl _ _ | apply below_drewN | apply Below.drew | apply Below.alloc | apply Below.setCell | omega | (focus (simp; done)) | (focus (simp; omega))))⟩
  case round =>
    clear hE0
    obtain ⟨k, M, hk, rfl, HM, hE, hBe⟩ := hrel
    obtain ⟨w1, rfl⟩ : ∃ w1, w1 = wr := ⟨_, rfl⟩
    by_cases hlt : k < n
    · have hx : ∀ h : k < s.size, (s[k]'h).toNat = sb s k := fun h => sb_get s h
      have hks : k < s.size := by rw [hn]; exact hlt
      obtain ⟨x, ex⟩ : ∃ x, sb s k = x := ⟨_, rfl⟩
      have hx256 := sb_lt s k
      obtain ⟨a, b, c, d, p, q, r, t, hM, hl, hBd, hw1, hw2⟩ := mmul_two (wordM_two HM.out) (sb s k)
      rw [ex] at hl hw1 hw2 hx256
      simp only [ex] at hx
      have HX := hide ex
      have HL := hide hl
      have HW2 := hide hw2
      have HMM := hide hM
      clear ex hl hw1 hw2 hM
      have hsz := hBe.size
      go_wp2_with fail
      refine (l16Letter_any _ x (by omega)).mono ?_
      rintro e w2 ⟨v2, rfl, hE2, hb2⟩
      have hs2 := hb2.size
      obtain ⟨v1, hv1⟩ : ∃ v1, v1 = u4 := ⟨_, rfl⟩
      have hEa := E2.below hE hb2
      rw [HMM.out] at hEa
      rw [HL.out] at hE2
      obtain ⟨A1, c1, e1, sA⟩ := E2.sl2 hEa
      obtain ⟨A2, c2, rfl, sB⟩ := E2.sl2 hE2
      subst e1
      subst hv1
      have hB2 := hBe.trans (hb2.mono hsz)
      clear hE hE2 hEa hBe
      have la : (mt2 a b c d).length = 2 := rfl
      have lb : (mt2 p q r t).length = 2 := rfl
      rw [la] at sA ⊢
      rw [lb] at sB ⊢
      obtain ⟨ab, ao, rfl, hab⟩ := RdL.addr sA (by omega)
      obtain ⟨bb, bo, rfl, hbb⟩ := RdL.addr sB (by omega)
      have HEN := hide (fun x y (hx : x < 2) (hy : y < 2) => mmul_en a b c d p q r t hx hy)
      have HOK := hide (okW_iff (a := a * p + b * r) (b := a * q + b * t) (c := c * p + d * r) (d := c * q + d * t))
      have HAr := hide (fun i (hi : i < 2) => mt2_row a b c d hi)
      have HBr := hide (fun i (hi : i < 2) => mt2_row p q r t hi)
      have HAb := hide (show ∀ i k, i < 2 → k < 2 → -1000000000000 ≤ en (mt2 a b c d) i k ∧ en (mt2 a b c d) i k ≤ 1000000000000 from fun i k hi hk => by
        rcases two_cases hi with rfl | rfl <;> rcases two_cases hk with rfl | rfl
        · exact hBd.a
        · exact hBd.b
        · exact hBd.c
        · exact hBd.d)
      have HBb := hide (show ∀ i k, i < 2 → k < 2 → -1 ≤ en (mt2 p q r t) i k ∧ en (mt2 p q r t) i k ≤ 1 from fun i k hi hk => by
        rcases two_cases hi with rfl | rfl <;> rcases two_cases hk with rfl | rfl
        · exact hBd.p
        · exact hBd.q
        · exact hBd.r
        · exact hBd.s)
      have HP : ∃ P, P = mt2 (a * p + b * r) (a * q + b * t) (c * p + d * r) (c * q + d * t) := ⟨_, rfl⟩
      obtain ⟨P, hP⟩ := HP
      rw [← hP] at HEN HOK HW2
      have hP4 : ∃ a b c d, P = mt2 a b c d := ⟨_, _, _, _, hP⟩
      clear hP la lb
      have HP4 := hide hP4
      clear hP4
      have hG0 : Grow E1 22 w2.heap.size (w2.alloc (.cells #[] 22)) (.slice (some ⟨w2.heap.size, 0, none⟩) 0 0) (P.take 0) := Grow.start rfl (Nat.le_refl _)
      have hB0 : Below w2.heap.size w2 (w2.alloc (.cells #[] 22)) := (Below.refl _ _).alloc (Nat.le_refl _) _
      go_wp2_with fail
      go_loopw [7, 8] (fun nx i wx => ∃ x : Nat, x ≤ 2 ∧ i = .int .i64 x ∧ Hid (∀ i j, i < x → j < 2 → inB (en P i j) (-999999999999) 999999999999 = true) ∧ Grow E1 22 w2.heap.size wx nx (P.take x) ∧ Below w2.heap.size w2 wx) (fun _ i _ => 2 - (intOf i).toNat)
      case atStart => exact ⟨0, by omega, rfl, hide fun i j hi => absurd hi (by omega), hG0, hB0⟩
      case round =>
        clear hG0 hB0
        obtain ⟨x', hx', rfl, HI, hG, hBx⟩ := hrel
        obtain ⟨w3, rfl⟩ : ∃ w3, w3 = wr := ⟨_, rfl⟩
        have hsx := hBx.size
        by_cases hlx : x' < 2
        · obtain ⟨ra, hra, hla, hga⟩ := HAr.out x' hlx
          obtain ⟨A3, n3, c3, cA, sA3⟩ := sA.row hra
          have l3 := sA3.len
          rw [hla] at l3
          subst l3
          obtain ⟨r0, hr0, hl0, hg0⟩ := HBr.out 0 (by omega)
          obtain ⟨A4, n4, c4, cB0, sB0⟩ := sB.row hr0
          have l4 := sB0.len
          rw [hl0] at l4
          subst l4
          obtain ⟨r1, hr1, hl1, hg1⟩ := HBr.out 1 (by omega)
          obtain ⟨A5, n5, c5, cB1, sB1⟩ := sB.row hr1
          have l5 := sB1.len
          rw [hl1] at l5
          subst l5
          rw [Nat.add_zero] at cB0
          obtain ⟨xb, xo, rfl, hxb, hxc⟩ := sA3.at_ (by omega)
          obtain ⟨yb, yo, rfl, hyb, hyc⟩ := sB0.at_ (by omega)
          obtain ⟨zb, zo, rfl, hzb, hzc⟩ := sB1.at_ (by omega)
          have HXC := hide hxc
          have HYC := hide hyc
          have HZC := hide hzc
          have HGA := hide hga
          have HG0 := hide hg0
          have HG1 := hide hg1
          have hbxw : Below w2.heap.size w2 w3 := hBx
          have hO0 : Ow (w3.alloc (.cells #[] 2)) w3.heap.size (.slice (some ⟨w3.heap.size, 0, none⟩) 0 0) ((P.getD x' []).take 0) := Ow.made' (xs := []) _ _ w3.heap.size 0 rfl rfl (Nat.le_refl _) rfl (by unfold maxLen; omega)
          have hb0 : Below w3.heap.size w3 (w3.alloc (.cells #[] 2)) := (Below.refl _ _).alloc (Nat.le_refl _) _
          clear hra hla hr0 hl0 hr1 hl1 hxc hyc hzc hga hg0 hg1 hBx
          go_wp2_with fail
          rw [show decide ((x' : Int) < 2) = true from decide_eq_true (by omega)]
          go_loopw [9, 10] (fun rw_ i wx => ∃ y : Nat, y ≤ 2 ∧ i = .int .i64 y ∧ Hid (∀ j, j < y → inB (en P x' j) (-999999999999) 999999999999 = true) ∧ Ow wx w3.heap.size rw_ ((P.getD x' []).take y) ∧ Below w3.heap.size w3 wx) (fun _ i _ => 2 - (intOf i).toNat)
          case atStart => exact ⟨0, by omega, rfl, hide fun j hj => absurd hj (by omega), hO0, hb0⟩
          case round =>
            clear hO0 hb0
            obtain ⟨y, hy, rfl, HY, hO, hBy⟩ := hrel
            have hsy := hBy.size
            by_cases hly : y < 2
            · have hbt := hbxw.trans (hBy.mono hsx)
              have c1' := (hbt.cell (p := ⟨ab, ao + x', none⟩) hab).trans cA
              have c2' := (hbt.cell (p := ⟨bb, bo, none⟩) hbb).trans cB0
              have c3' := (hbt.cell (p := ⟨bb, bo + 1, none⟩) hbb).trans cB1
              have d1 := (hbt.cell (p := ⟨xb, xo + 0, none⟩) hxb).trans (HXC.out 0 (by omega))
              have d2 := (hbt.cell (p := ⟨xb, xo + 1, none⟩) hxb).trans (HXC.out 1 (by omega))
              have d3 := (hbt.cell (p := ⟨yb, yo + y, none⟩) hyb).trans (HYC.out y hly)
              have d4 := (hbt.cell (p := ⟨zb, zo + y, none⟩) hzb).trans (HZC.out y hly)
              rw [Nat.add_zero] at d1
              have e0 := HEN.out x' y hlx hly
              have b1 := HAb.out x' 0 hlx (by omega)
              have b2 := HAb.out x' 1 hlx (by omega)
              have b3 := HBb.out 0 y (by omega) hly
              have b4 := HBb.out 1 y (by omega) hly
              rw [en_row, HGA.out] at b1 b2
              rw [en_row, HG0.out] at b3
              rw [en_row, HG1.out] at b4
              rw [en_row, HGA.out, en_row, HG0.out, en_row, HGA.out, en_row, HG1.out] at e0
              have q1 := pb (by omega) b1.1 b1.2 b3.1 b3.2
              have q2 := pb (by omega) b2.1 b2.2 b4.1 b4.2
              obtain ⟨i1, hi1⟩ : ∃ i, gi ra 0 = i := ⟨_, rfl⟩
              obtain ⟨i2, hi2⟩ : ∃ i, gi ra 1 = i := ⟨_, rfl⟩
              obtain ⟨i3, hi3⟩ : ∃ i, gi r0 y = i := ⟨_, rfl⟩
              obtain ⟨i4, hi4⟩ : ∃ i, gi r1 y = i := ⟨_, rfl⟩
              rw [hi1] at d1 e0 q1
              rw [hi2] at d2 e0 q2
              rw [hi3] at d3 e0 q1
              rw [hi4] at d4 e0 q2
              obtain ⟨u, hu⟩ : ∃ u, en P x' y = u := ⟨_, rfl⟩
              have HU := hide hu
              rw [hu] at e0
              have m1 : IntKind.i64.wrap (i1 * i3) = i1 * i3 := wr64 _ ⟨by omega, by omega⟩
              have m2 : IntKind.i64.wrap (i2 * i4) = i2 * i4 := wr64 _ ⟨by omega, by omega⟩
              have m3 : IntKind.i64.wrap (i1 * i3 + i2 * i4) = u := by rw [e0]; exact wr64 _ ⟨by omega, by omega⟩
              clear b1 b2 b3 b4 hi1 hi2 hi3 hi4 e0 q1 q2 hu
              cases hin : inB u (-999999999999) 999999999999 with
              | false =>
                have HIN := hide hin
                clear hin
                obtain ⟨w6, rfl⟩ : ∃ w6, w6 = wr := ⟨_, rfl⟩
                have g1 := Nat.lt_of_lt_of_le hab hbt.size
                have g2 := Nat.lt_of_lt_of_le hbb hbt.size
                have g3 := Nat.lt_of_lt_of_le hxb hbt.size
                have g4 := Nat.lt_of_lt_of_le hyb hbt.size
                have g5 := Nat.lt_of_lt_of_le hzb hbt.size
                have C1 := hide c1'
                have C2 := hide c2'
                have C3 := hide c3'
                have D1 := hide d1
                have D2 := hide d2
                have D3 := hide d3
                have D4 := hide d4
                clear c1' c2' c3' d1 d2 d3 d4
                go_wp2_with fail
                refine wp_region_be [0, 1, 2, 3, 4, 5, 6, 7, 8, 9, 10, 11, 12, 13, 14, 15, 16, 17, 18, 19, 20, 21, 22, 23, 24, 25, 26, 27] 27 w6.heap.size w6 (by kernel_rfl) (by kernel_rfl) (by kernel_rfl) (fun _ _ _ _ _ h => h) (Below.refl _ _) (fun wd hBe => ?_)
                repeat (first | (apply ord_tk rfl (by rfl) (by rfl) (by rfl); (focus (intro wx hSw; have r1 := (hSw.cell (p := ⟨ab, ao + x', none⟩) g1).trans C1.out; have r2 := (hSw.cell (p := ⟨bb, bo, none⟩) g2).trans C2.out; have r3 := (hSw.cell (p := ⟨bb, bo + 1, none⟩) g2).trans C3.out; have r4 := (hSw.cell (p := ⟨xb, xo, none⟩) g3).trans D1.out; have r5 := (hSw.cell (p := ⟨xb, xo + 1, none⟩) g3).trans D2.out; have r6 := (hSw.cell (p := ⟨yb, yo + y, none⟩) g4).trans D3.out; have r7 := (hSw.cell (p := ⟨zb, zo + y, none⟩) g5).trans D4.out; go_simp; (try with_reducible rfl))); (try simp only [Act.put, List.setIfInBounds_toArray, List.set_cons_zero, List.set_cons_succ])) | (apply ord_skip rfl (by rfl) (by rfl) (fun _ => hBe); (try simp only [Act.put, List.setIfInBounds_toArray, List.set_cons_zero, List.set_cons_succ])))
                refine ord_do rfl (by rfl) (by rfl) (fun K hK => ?_)
                go_simp
                refine hK.out _ _ (fun h => absurd h (by omega)) ?_
                (try simp only [Act.put, List.setIfInBounds_toArray, List.set_cons_zero, List.set_cons_succ])
                clear hK K
                refine ord_nil ?_
                have hbw6 := hBe
                have hsd := hBe.size
                go_wp2_with fail
                refine (l01In_v false _ _ _ _ HIN.out).mono ?_
                rintro e w' ⟨rfl, m, rfl⟩
                have hno : okW P = false := by
                  refine Bool.eq_false_iff.2 fun h => ?_
                  have h7 := HOK.out.1 h x' y hlx hly
                  rw [HU.out, HIN.out] at h7; cases h7
                have hN : wordM s s.size = none := wordM_no HM.out (by rw [HX.out, HW2.out]; exact hno) (by omega)
                have hR := hide (show (wordM s s.size).getD [] = [] by rw [hN]; rfl)
                have hC := hide (show (wordM s s.size).isSome = false by rw [hN]; rfl)
                clear hno hN
                go_wp2_with fail
                refine bodyPost_ret (v := .tuple #[.slice none 0 0, .bool false]) (by simp [results, Tryd.results54, go_sem]) rfl ?_
                have hbz := (hB2.trans (hbt.mono (by omega))).trans (hbw6.mono (by omega))
                exact ⟨_, by rw [hC.out], by rw [hR.out]; exact (Grow.nil _).toL.mono (fun b hb => hb) (fun b hb => hb.2), ⟨hbz.os, hbz.tape, hbz.output, hbz.size, hbz.block⟩⟩
              | true =>
                have HIN := hide hin
                clear hin
                obtain ⟨w6, rfl⟩ : ∃ w6, w6 = wr := ⟨_, rfl⟩
                have g1 := Nat.lt_of_lt_of_le hab hbt.size
                have g2 := Nat.lt_of_lt_of_le hbb hbt.size
                have g3 := Nat.lt_of_lt_of_le hxb hbt.size
                have g4 := Nat.lt_of_lt_of_le hyb hbt.size
                have g5 := Nat.lt_of_lt_of_le hzb hbt.size
                have C1 := hide c1'
                have C2 := hide c2'
                have C3 := hide c3'
                have D1 := hide d1
                have D2 := hide d2
                have D3 := hide d3
                have D4 := hide d4
                clear c1' c2' c3' d1 d2 d3 d4
                go_wp2_with fail
                refine wp_region_be [0, 1, 2, 3, 4, 5, 6, 7, 8, 9, 10, 11, 12, 13, 14, 15, 16, 17, 18, 19, 20, 21, 22, 23, 24, 25, 26, 27] 27 w6.heap.size w6 (by kernel_rfl) (by kernel_rfl) (by kernel_rfl) (fun _ _ _ _ _ h => h) (Below.refl _ _) (fun wd hBe => ?_)
                repeat (first | (apply ord_tk rfl (by rfl) (by rfl) (by rfl); (focus (intro wx hSw; have r1 := (hSw.cell (p := ⟨ab, ao + x', none⟩) g1).trans C1.out; have r2 := (hSw.cell (p := ⟨bb, bo, none⟩) g2).trans C2.out; have r3 := (hSw.cell (p := ⟨bb, bo + 1, none⟩) g2).trans C3.out; have r4 := (hSw.cell (p := ⟨xb, xo, none⟩) g3).trans D1.out; have r5 := (hSw.cell (p := ⟨xb, xo + 1, none⟩) g3).trans D2.out; have r6 := (hSw.cell (p := ⟨yb, yo + y, none⟩) g4).trans D3.out; have r7 := (hSw.cell (p := ⟨zb, zo + y, none⟩) g5).trans D4.out; go_simp; (try with_reducible rfl))); (try simp only [Act.put, List.setIfInBounds_toArray, List.set_cons_zero, List.set_cons_succ])) | (apply ord_skip rfl (by rfl) (by rfl) (fun _ => hBe); (try simp only [Act.put, List.setIfInBounds_toArray, List.set_cons_zero, List.set_cons_succ])))
                refine ord_do rfl (by rfl) (by rfl) (fun K hK => ?_)
                go_simp
                refine hK.out _ _ (fun h => absurd h (by omega)) ?_
                (try simp only [Act.put, List.setIfInBounds_toArray, List.set_cons_zero, List.set_cons_succ])
                clear hK K
                refine ord_nil ?_
                have hbw6 := hBe
                have hsd := hBe.size
                go_wp2_with fail
                refine (l01In_v true _ _ _ _ HIN.out).mono ?_
                rintro e w' ⟨rfl, m, rfl⟩
                have hln : ((P.getD x' []).take y).length = y := by
                  obtain ⟨a9, b9, c9, d9, e9⟩ := HP4.out
                  rw [e9]; rcases two_cases hlx with rfl | rfl <;> simp [mt2] <;> omega
                have hO6 := hO.below hbw6
                go_wp2_with (at_builtin; refine list_push _ rfl _ _ rfl w3.heap.size _ _ rfl (hO6.alloc _) u wd.heap.size _ rfl (Blk.new _ _ _) (by rw [hln]; omega) (by simp; omega) (by simp) ?_; intro g9 cap w8 hP8)
                have hba : Below w3.heap.size w3 (wd.drewN m) := by
                  have hbz := hBy.trans (hbw6.mono hsy)
                  exact ⟨hbz.os, hbz.tape, hbz.output, hbz.size, hbz.block⟩
                have hbb' := (hba.alloc (by simp; omega) (.cells #[.int .i64 u] 2)).trans (hP8.below (hO6.alloc _) (by simp; omega))
                have hown := hP8.own
                have hTk : (P.getD x' []).take y ++ [u] = (P.getD x' []).take (y + 1) := by
                  obtain ⟨a9, b9, c9, d9, e9⟩ := HP4.out
                  rw [← HU.out]; exact mt2_take e9 hlx hly
                rw [hTk, hln] at hown
                have hmn : min y (P[x']?.getD []).length = y := by
                  have h9 := hln
                  rw [List.length_take, List.getD_eq_getElem?_getD] at h9; exact h9
                have HMn := hide hmn
                clear hmn
                have HOwn := hide hown
                have HBb' := hide hbb'
                have HYn := hide (show ∀ j, j < y + 1 → inB (en P x' j) (-999999999999) 999999999999 = true from fun j hj => by
                  rcases Nat.lt_succ_iff_lt_or_eq.1 hj with h2 | rfl
                  · exact HY.out j h2
                  · rw [HU.out]; exact HIN.out)
                clear hba hbb' hown hTk hP8 hO6
                go_roundw
                case rel => exact ⟨y + 1, by omega, by go_num, HYn, by rw [HMn.out]; exact HOwn.out, HBb'.out⟩
                case measure => simp [intOf] <;> omega
            · obtain rfl : y = 2 := by omega
              obtain ⟨a9, b9, c9, d9, e9⟩ := HP4.out
              obtain ⟨w5, hw5⟩ : ∃ w5, w5 = wr := ⟨_, rfl⟩
              rw [← hw5] at hO hBy hsy ⊢
              clear hw5
              have hln : ((P.getD x' []).take 2).length = 2 := by rw [e9]; rcases two_cases hlx with rfl | rfl <;> rfl
              have hr9 : ∀ i ∈ (P.getD x' []).take 2, i64ok i := fun i hi => by
                have h1 := List.mem_of_mem_take hi
                obtain ⟨j, hj, rfl⟩ := List.getElem_of_mem h1
                have hj2 : j < 2 := by rw [e9] at hj; rcases two_cases hlx with rfl | rfl <;> simpa [mt2] using hj
                have h2 := HY.out j hj2
                have h3 : en P x' j = (P.getD x' [])[j] := by unfold en gi; rw [List.getD_eq_getElem?_getD, List.getElem?_eq_getElem hj]; rfl
                rw [h3] at h2
                unfold inB at h2
                simp only [decide_eq_true_eq, Bool.and_eq_true] at h2
                exact ⟨by omega, by omega⟩
              obtain ⟨Ar, cr, hv, hsr⟩ := hO.sl hr9
              subst hv
              have hE9 := E1.of_ow hO hr9
              rw [hln] at hE9
              have hTR := hide (mt2_takeR e9 hlx)
              have HIn := hide (show ∀ i j, i < x' + 1 → j < 2 → inB (en P i j) (-999999999999) 999999999999 = true from fun i j hi hj => by
                rcases Nat.lt_succ_iff_lt_or_eq.1 hi with h2 | rfl
                · exact HI.out i j h2 hj
                · exact HY.out j hj)
              have hbw : Below w5.heap.size w5 (w5.alloc (.cells #[.slice Ar 2 cr] 40)) := (Below.refl _ _).alloc (Nat.le_refl _) _
              have hE10 := E1.below hE9 ((Below.refl w5.heap.size w5).alloc (Nat.le_refl _) (.cells #[.slice Ar 2 cr] 22))
              have hbw2 : Below w5.heap.size w5 (w5.alloc (.cells #[.slice Ar 2 cr] 22)) := (Below.refl _ _).alloc (Nat.le_refl _) _
              have hlen : (P.take x').length ≤ 1048576 := by simp; omega
              have hby := hbxw.trans (hBy.mono hsx)
              have hszy := hby.size
              rw [hln]
              clear hr9 hsr hO hE9 hbw e9 hln
              go_wp2_with (at_builtin; refine list_pushG kp1 40 22 _ 24 Tryd.underlying40 rows_info (by omega) rfl _ rfl _ _ rfl w2.heap.size _ _ rfl w3 hG (hBy.trans (hbw2.mono hsy)) (.slice Ar 2 cr) _ _ hE10 (fun b hb => ⟨hb.1, by have := hb.2; simp; omega⟩) rfl w5.heap.size _ rfl (Blk.new _ _ _) hlen hsx (by simp) ?_; intro g cap w8 hG8 hB8 hW8 hg8 hg9)
              rw [hTR.out] at hG8
              rw [List.length_take] at hG8
              have hbz := (hby.trans (hbw2.mono hszy)).trans hB8
              clear hE10 hG hbw2 hg8
              go_roundw
              case rel => exact ⟨x' + 1, by omega, by go_num, HIn, hG8, hbz⟩
              case measure => simp [intOf] <;> omega
        · obtain rfl : x' = 2 := by omega
          have hall : P.take 2 = P := by obtain ⟨a9, b9, c9, d9, e9⟩ := HP4.out; rw [e9]; rfl
          rw [hall] at hG
          have hL := hG.toL
          have hE9 : E2 w3 u7 P (fun b => w.heap.size ≤ b ∧ b < w3.heap.size) := OwL.mono hL (fun b hb => ⟨by have := hb.1; omega, hb.2⟩) (fun b hb => hb.2)
          have hnew := wordM_yes HM.out (by rw [HX.out, HW2.out]; exact HOK.out.2 fun x y hx hy => HI.out x y hx hy)
          rw [HX.out, HW2.out] at hnew
          have HNew := hide hnew
          have hbz := hB2.trans (hBx.mono (by omega))
          clear hnew hall hG hL
          go_wp2_with fail
          go_roundw
          case rel => exact ⟨k + 1, _, by omega, by go_num, HNew, hE9, hbz⟩
          case measure => simp [intOf] <;> omega
    · obtain rfl : k = n := by omega
      have hN : wordM s s.size = some M := by rw [hn]; exact HM.out
      have hR := hide (show (wordM s s.size).getD [] = M by rw [hN]; rfl)
      have hC := hide (show (wordM s s.size).isSome = true by rw [hN]; rfl)
      clear hN
      go_wp2_with fail
      refine bodyPost_ret (v := .tuple #[u4, .bool true]) (by simp [results, Tryd.results54, go_sem]) rfl ?_
      exact ⟨_, by rw [hC.out], by rw [hR.out]; exact hE, hBe⟩
set_option maxHeartbeats 8000000 in
theorem spec_IM2_any (w : World) (s : ByteArray) (hs : s.size ≤ 1048576) : Calls Tryd.prog 29 #[.string s] w (MkEC E2 w (imR s) (imK s)) := by
  cases hw : wordB s with
  | false =>
    have hR := hide (show imR s = [] by unfold imR; rw [hw]; rfl)
    have hC := hide (show imK s = 6 by unfold imK; rw [hw]; rfl)
    have hW := l16Is_any w s hs
    rw [hw] at hW
    go_enter Tryd.func29, Tryd.ntmps29
    go_wp2_with fail
    refine (hW).mono ?_
    rintro e w' ⟨rfl, m, rfl⟩
    go_wp2_with fail
    refine bodyPost_ret (v := .tuple #[.slice none 0 0, .int .i64 6]) (by simp [results, Tryd.results29, go_sem]) rfl ?_
    exact ⟨_, by rw [hC.out], by rw [hR.out]; exact (Grow.nil _).toL.mono (fun b hb => hb) (fun b hb => hb.2), ⟨rfl, rfl, rfl, Nat.le_refl _, fun _ _ => rfl⟩⟩
  | true =>
    have hW := l16Is_any w s hs
    rw [hw] at hW
    have hn60 : s.size ≤ 60 := by
      unfold wordB at hw
      rw [Bool.and_eq_true, decide_eq_true_eq] at hw
      exact hw.2
    have HW := hide hw
    clear hw
    have hL := fun W => l16Integers_any W s hn60
    cases hm : wordM s s.size with
    | none =>
      have hR := hide (show imR s = [] by unfold imR; rw [HW.out, hm]; rfl)
      have hC := hide (show imK s = 3 by unfold imK; rw [HW.out, hm]; rfl)
      rw [hm] at hL
      clear hm
      go_enter Tryd.func29, Tryd.ntmps29
      go_wp2_with fail
      refine (hW).mono ?_
      rintro e w' ⟨rfl, m, rfl⟩
      go_wp2_with fail
      refine (hL _).mono ?_
      rintro e w2 ⟨v, rfl, hE, hb⟩
      go_wp2_with fail
      refine bodyPost_ret (v := .tuple #[.slice none 0 0, .int .i64 3]) (by simp [results, Tryd.results29, go_sem]) rfl ?_
      exact ⟨_, by rw [hC.out], by rw [hR.out]; exact (Grow.nil _).toL.mono (fun b hb => hb) (fun b hb => hb.2), ⟨hb.os, hb.tape, hb.output, hb.size, hb.block⟩⟩
    | some M =>
      have hR := hide (show imR s = M by unfold imR; rw [HW.out, hm]; rfl)
      have hC := hide (show imK s = 0 by unfold imK; rw [HW.out, hm]; rfl)
      rw [hm] at hL
      clear hm
      go_enter Tryd.func29, Tryd.ntmps29
      go_wp2_with fail
      refine (hW).mono ?_
      rintro e w' ⟨rfl, m, rfl⟩
      go_wp2_with fail
      refine (hL _).mono ?_
      rintro e w2 ⟨v, rfl, hE, hb⟩
      go_wp2_with fail
      refine bodyPost_ret (v := .tuple #[v, .int .i64 0]) (by simp [results, Tryd.results29, go_sem]) rfl ?_
      exact ⟨_, by rw [hC.out], by rw [hR.out]; exact hE, ⟨hb.os, hb.tape, hb.output, hb.size, hb.block⟩⟩
end Go.Proofs.YtlekbkjkkoefnaaDoor
