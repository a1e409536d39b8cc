
/- The walks of l03Dual, l03Fault, l03Is, IsRing of the reference. -/
import Derived.Test.YteobaodabjdcaaaRS1
namespace Go.Proofs.Yteobaodabjdcaaa
open Go Go.RowKit
set_option linter.unusedSimpArgs false
set_option linter.unusedVariables false
set_option maxRecDepth 100000

theorem duSt_0 {f : Nat → Int} {k : Nat} {o : Int} (h : duSt f k = some o) (hv : f k = 0) : duSt f (k + 1) = some o := by simp [duSt, h, hv]
theorem duSt_1 {f : Nat → Int} {k : Nat} {o : Int} (h : duSt f k = some o) (hv : f k = 1) (ho : o < 0) : duSt f (k + 1) = some (k : Int) := by simp [duSt, h, hv, ho]
theorem duSt_x {f : Nat → Int} {k : Nat} {o : Int} (h : duSt f k = some o) (hv : f k ≠ 0) (ho : ¬ (f k = 1 ∧ o < 0)) : duSt f (k + 1) = none := by simp [duSt, h, hv, ho]
theorem duF_stop {f : Nat → Int} {k n : Nat} (h : duSt f (k + 1) = none) (hk : k < n) : duF f n = -1 := by unfold duF; rw [duSt_dead h (by omega)]; rfl
theorem duF_end {f : Nat → Int} {n : Nat} {o : Int} (h : duSt f n = some o) : duF f n = o := by unfold duF; rw [h]; rfl

set_option maxHeartbeats 2000000 in
theorem l03Dual_any (w : World) (B n c b off : Nat) (b1 o1 c1 : Nat → Nat) (b2 o2 c2 : Nat → Nat → Nat) (t : Tb) (i : Nat) (hV : View w B n b off b1 o1 c1 b2 o2 c2 (t3 t)) (hn : t.length = n) (hn16 : n ≤ 16) (hi : i < n) (hc : n ≤ c) :
    Calls Try.prog 27 #[.slice (some ⟨b, off, none⟩) n c, .int .i64 i] w (Qt w (.int .i64 (du t i))) := by
  have HD := hide (show du t i = duF (fun j => t3 t i j 0) n by rw [← hn]; rfl)
  clear hn
  have g1 := (hV.h1 i hi).1
  go_enter Try.func27, Try.ntmps27
  go_wp2_with fail
  go_loopw [5, 6] (fun o' j wr => ∃ (k : Nat) (o : Int), k ≤ n ∧ j = .int .i64 k ∧ o' = .int .i64 o ∧ -1 ≤ o ∧ o ≤ 16 ∧ Hid (duSt (fun j => t3 t i j 0) k = some o) ∧ ∃ m, w.drewN m = wr) (fun _ j _ => n - (intOf j).toNat)
  case atStart => exact ⟨0, -1, by omega, rfl, rfl, by omega, by omega, hide rfl, 0, rfl⟩
  case round =>
    obtain ⟨k, o, hk, rfl, rfl, ho0, ho1, HS, d, rfl⟩ := hrel
    by_cases hlt : k < n
    · have g2 := (hV.h2 i k hi hlt).1
      have g3 := hV.h3 i k 0 hi hlt (by omega)
      simp only [Nat.add_zero] at g3
      have n0 : 0 < n := by omega
      obtain ⟨v, ev⟩ : ∃ v, t3 t i k 0 = v := ⟨_, rfl⟩
      rw [ev] at g3
      have EV := hide ev
      clear ev
      by_cases hv : v = 0
      · subst hv
        have HN := hide (duSt_0 HS.out EV.out)
        go_wp2_with fail
        go_roundw
        case rel => exact ⟨k + 1, o, by omega, by go_num, rfl, ho0, ho1, HN, d, rfl⟩
        case measure => simp [intOf] <;> omega
      · by_cases hv1 : v = 1 ∧ o < 0
        · obtain ⟨rfl, ho⟩ := hv1
          have HN := hide (duSt_1 HS.out EV.out ho)
          go_wp2_with fail
          go_roundw
          case rel => exact ⟨k + 1, k, by omega, by go_num, rfl, by omega, by omega, HN, d, rfl⟩
          case measure => simp [intOf] <;> omega
        · have HN := hide (duF_stop (duSt_x HS.out (by rw [EV.out]; exact hv) (by rw [EV.out]; exact hv1)) hlt)
          have w0 : (v != 0) = true := by simp [hv]
          by_cases hv2 : v = 1
          · subst hv2
            have ho : ¬ o < 0 := fun h => hv1 ⟨rfl, h⟩
            clear hv hv1
            go_wp2_with fail
            go_ret
            exact Qt.mk' d rfl (int_eq (by rw [HD.out, HN.out]))
          · have w1 : (v == 1) = false := by simp [hv2]
            clear hv hv1
            go_wp2_with fail
            go_ret
            exact Qt.mk' d rfl (int_eq (by rw [HD.out, HN.out]))
    · obtain rfl : k = n := by omega
      go_wp2_with fail
      go_ret
      exact Qt.mk' d rfl (int_eq (by rw [HD.out, duF_end HS.out]))

theorem flt_unit {t : Tb} {x : List Int} (h : unitF t = some x) : flt t = some x := by unfold flt; rw [h]
theorem flt_dual {t : Tb} {i : Int} (h0 : unitF t = none) (h : dfF t = some i) : flt t = some [1, i] := by unfold flt; rw [h0, h]
theorem flt_turn {t : Tb} {x : List Int} (h0 : unitF t = none) (h1 : dfF t = none) (h : turnF t = some x) : flt t = some x := by unfold flt; rw [h0, h1, h]
theorem flt_br {t : Tb} {o : Option (List Int)} (h0 : unitF t = none) (h1 : dfF t = none) (h2 : turnF t = none) (h : brF t = o) : flt t = o := by unfold flt; rw [h0, h1, h2, h]
theorem unitAt_no {t : Tb} {i k : Nat} (h1 : t3 t 0 i k = dl i k) (h2 : t3 t i 0 k = dl i k) : unitAt t i k = none := by simp [unitAt, h1, h2]
theorem unitAt_1 {t : Tb} {i k : Nat} (h1 : t3 t 0 i k ≠ dl i k) : unitAt t i k = some [0, (i : Int), (k : Int)] := by simp [unitAt, h1]
theorem unitAt_2 {t : Tb} {i k : Nat} (h1 : t3 t i 0 k ≠ dl i k) : unitAt t i k = some [0, (i : Int), (k : Int)] := by simp [unitAt, h1]
theorem turnAt_no {t : Tb} {i j k : Nat} (h1 : t3 t i j k = t3 t (du t i).toNat k j) (h2 : t3 t i j k = t3 t k (du t j).toNat i) : turnAt t i j k = none := by unfold turnAt; rw [if_neg]; rintro (h | h) <;> contradiction
theorem turnAt_1 {t : Tb} {i j k : Nat} (h1 : t3 t i j k ≠ t3 t (du t i).toNat k j) : turnAt t i j k = some [2, (i : Int), (j : Int), (k : Int)] := by unfold turnAt; rw [if_pos (.inl h1)]
theorem turnAt_2 {t : Tb} {i j k : Nat} (h1 : t3 t i j k ≠ t3 t k (du t j).toNat i) : turnAt t i j k = some [2, (i : Int), (j : Int), (k : Int)] := by unfold turnAt; rw [if_pos (.inr h1)]
theorem brAt_no {t : Tb} {i j k l : Nat} (h : brL t i j k l t.length = brR t i j k l t.length) : brAt t i j k l = none := by simp [brAt, h]
theorem brAt_1 {t : Tb} {i j k l : Nat} (h : brL t i j k l t.length ≠ brR t i j k l t.length) : brAt t i j k l = some [3, (i : Int), (j : Int), (k : Int), (l : Int)] := by simp [brAt, h]
theorem dfAt_no {t : Tb} {i : Nat} (h : dfB t i = false) : dfAt t i = none := by simp [dfAt, h]
theorem dfAt_1 {t : Tb} {i : Nat} (h : dfB t i = true) : dfAt t i = some (i : Int) := by simp [dfAt, h]
/-- The duals, first to last. -/
def duL (t : Tb) (k : Nat) : List Int := (List.range k).map (du t)
theorem duL_succ (t : Tb) (k : Nat) : duL t (k + 1) = duL t k ++ [du t k] := by simp [duL, List.range_succ]
theorem duL_length (t : Tb) (k : Nat) : (duL t k).length = k := by simp [duL]
theorem duL_gi {t : Tb} {k j : Nat} (h : j < k) : gi (duL t k) j = du t j := by simp [gi, duL, List.getD, h]

set_option maxHeartbeats 8000000 in
theorem l03Fault_any (w : World) (n c b off : Nat) (b1 o1 c1 : Nat → Nat) (b2 o2 c2 : Nat → Nat → Nat) (t : Tb) (hV : View w w.heap.size n b off b1 o1 c1 b2 o2 c2 (t3 t)) (hC : IsCb t) (hn : t.length = n) (hc : n ≤ c) :
    Calls Try.prog 18 #[.slice (some ⟨b, off, none⟩) n c] w (MkO w (flt t)) := by
  subst hn
  have hn16 : t.length ≤ 16 := hC.le
  have hn1 : 1 ≤ t.length := hC.pos
  have hR : ∀ i j k, i < t.length → j < t.length → k < t.length → 0 ≤ t3 t i j k ∧ t3 t i j k ≤ 1000 := fun i j k hi hj hk => hC.rng (by omega) (by omega) (by omega)
  go_enter Try.func18, Try.ntmps18
  go_wp2_with fail
  go_loopw [4] (fun i wr => ∃ p : Nat, p ≤ t.length ∧ i = .int .i64 p ∧ Hid (fs p (fun i => fs t.length fun k => unitAt t i k) = none) ∧ Below w.heap.size w wr) (fun i _ => t.length - (intOf i).toNat)
  case atStart => exact ⟨0, by omega, rfl, hide rfl, Below.refl _ _⟩
  case round =>
    obtain ⟨p, hp, rfl, HF1, hBe⟩ := hrel
    by_cases hlp : p < t.length
    · go_wp2_with fail
      go_loopw [5] (fun i wr => ∃ q : Nat, q ≤ t.length ∧ i = .int .i64 q ∧ Hid (fs q (fun k => unitAt t p k) = none) ∧ Below w.heap.size w wr) (fun i _ => t.length - (intOf i).toNat)
      case atStart => exact ⟨0, by omega, rfl, hide rfl, hBe⟩
      case round =>
        clear hBe
        obtain ⟨q, hq, rfl, HF2, hBe⟩ := hrel
        by_cases hlq : q < t.length
        · have V := hV.le hBe
          have a1 := (V.h1 0 (by omega)).1
          have a2 := (V.h2 0 p (by omega) hlp).1
          have a3 := V.h3 0 p q (by omega) hlp hlq
          have e1 := (V.h1 p hlp).1
          have e2 := (V.h2 p 0 hlp (by omega)).1
          have e3 := V.h3 p 0 q hlp (by omega) hlq
          simp only [Nat.add_zero] at a1 e2
          have n0 : 0 < t.length := by omega
          obtain ⟨x, ex⟩ : ∃ x, t3 t 0 p q = x := ⟨_, rfl⟩
          obtain ⟨y, ey⟩ : ∃ y, t3 t p 0 q = y := ⟨_, rfl⟩
          rw [ex] at a3
          rw [ey] at e3
          have EX := hide ex
          have EY := hide ey
          clear ex ey V
          by_cases hpq : p = q
          · subst hpq
            have ED := hide (show dl p p = 1 from if_pos rfl)
            by_cases hx : x = 1
            · by_cases hy : y = 1
              · have HG := hide (fs_next HF2.out (unitAt_no (by rw [EX.out, hx, ED.out]) (by rw [EY.out, hy, ED.out])))
                subst hx
                subst hy
                go_wp2_with fail
                go_roundw
                case rel => exact ⟨p + 1, by omega, by go_num, HG, hBe⟩
                case measure => simp [intOf] <;> omega
              · have HG := hide (flt_unit (fs_stop HF1.out (fs_stop HF2.out (unitAt_2 (by rw [EY.out, ED.out]; exact hy)) hlq) hlp))
                have hyb : (y != 1) = true := by simp [hy]
                subst hx
                clear hy
                go_wp2_with fail
                go_ret
                refine cast (congrArg (fun o => MkO _ o _ _) HG.out.symm) (mkO_new (w0 := w) (xs := [0, p, p]) (Blk.new' _ _ _ _ rfl) rfl rfl hBe.size (by unfold maxLen; omega) (hBe.alloc hBe.size _))
            · have HG := hide (flt_unit (fs_stop HF1.out (fs_stop HF2.out (unitAt_1 (by rw [EX.out, ED.out]; exact hx)) hlq) hlp))
              have hxb : (x != 1) = true := by simp [hx]
              clear hx
              go_wp2_with fail
              go_ret
              refine cast (congrArg (fun o => MkO _ o _ _) HG.out.symm) (mkO_new (w0 := w) (xs := [0, p, p]) (Blk.new' _ _ _ _ rfl) rfl rfl hBe.size (by unfold maxLen; omega) (hBe.alloc hBe.size _))
          · have hpb : ((p : Int) == (q : Int)) = false := by simp; omega
            have hdl : dl p q = 0 := if_neg hpq
            have hpq' := hide hpq
            have hdl' := hide hdl
            clear hpq hdl
            have ED := hide hdl'.out
            by_cases hx : x = 0
            · by_cases hy : y = 0
              · have HG := hide (fs_next HF2.out (unitAt_no (by rw [EX.out, hx, ED.out]) (by rw [EY.out, hy, ED.out])))
                subst hx
                subst hy
                go_wp2_with fail
                go_roundw
                case rel => exact ⟨q + 1, by omega, by go_num, HG, hBe⟩
                case measure => simp [intOf] <;> omega
              · have HG := hide (flt_unit (fs_stop HF1.out (fs_stop HF2.out (unitAt_2 (by rw [EY.out, ED.out]; exact hy)) hlq) hlp))
                have hyb : (y != 0) = true := by simp [hy]
                subst hx
                clear hy
                go_wp2_with fail
                go_ret
                refine cast (congrArg (fun o => MkO _ o _ _) HG.out.symm) (mkO_new (w0 := w) (xs := [0, p, q]) (Blk.new' _ _ _ _ rfl) rfl rfl hBe.size (by unfold maxLen; omega) (hBe.alloc hBe.size _))
            · have HG := hide (flt_unit (fs_stop HF1.out (fs_stop HF2.out (unitAt_1 (by rw [EX.out, ED.out]; exact hx)) hlq) hlp))
              have hxb : (x != 0) = true := by simp [hx]
              clear hx
              go_wp2_with fail
              go_ret
              refine cast (congrArg (fun o => MkO _ o _ _) HG.out.symm) (mkO_new (w0 := w) (xs := [0, p, q]) (Blk.new' _ _ _ _ rfl) rfl rfl hBe.size (by unfold maxLen; omega) (hBe.alloc hBe.size _))
        · obtain rfl : q = t.length := by omega
          have HG := hide (fs_next HF1.out HF2.out)
          go_wp2_with fail
          go_roundw
          case rel => exact ⟨p + 1, by omega, by go_num, HG, hBe⟩
          case measure => simp [intOf] <;> omega
    · obtain rfl : p = t.length := by omega
      have HU := hide (show unitF t = none from HF1.out)
      have hO0 : Ow (wr.alloc (.cells #[] 2)) w.heap.size (.slice (some ⟨wr.heap.size, 0, none⟩) 0 0) [] := Ow.made' (xs := []) wr #[] wr.heap.size 0 rfl rfl hBe.size rfl (by unfold maxLen; omega)
      have hB0 : Below w.heap.size w (wr.alloc (.cells #[] 2)) := hBe.alloc hBe.size _
      go_wp2_with fail
      go_loopw [7, 8] (fun v i wr => ∃ (p : Nat) (vv : Value), p ≤ t.length ∧ i = .int .i64 p ∧ vv = v ∧ Ow wr w.heap.size vv (duL t p) ∧ Below w.heap.size w wr) (fun _ i _ => t.length - (intOf i).toNat)
      case atStart => exact ⟨0, _, by omega, rfl, rfl, hO0, hB0⟩
      case round =>
        clear hO0 hB0 hBe HF1
        obtain ⟨p, vv, hp, rfl, rfl, hO, hBe⟩ := hrel
        by_cases hlp : p < t.length
        · have V := hV.le hBe
          have hcall := fun W (h : Below w.heap.size w W) => l03Dual_any W w.heap.size t.length c b off b1 o1 c1 b2 o2 c2 t p (hV.le h) rfl hn16 hlp hc
          obtain ⟨x, ex⟩ : ∃ x, du t p = x := ⟨_, rfl⟩
          have hlen : (duL t p).length = p := duL_length t p
          have HL := hide hlen
          rw [ex] at hcall
          have EX := hide ex
          clear ex V hlen
          go_wp2_with fail
          refine (hcall _ hBe).mono ?_
          rintro e w1 ⟨rfl, d, rfl⟩
          have hO1 := hO.drewN d
          have hB1 := below_drewN hBe d
          clear hO hcall
          obtain ⟨W1, hW1⟩ : ∃ W1, wr.drewN d = W1 := ⟨_, rfl⟩
          rw [hW1] at hO1 hB1 ⊢
          clear hW1
          have hmx : p ≤ 1048576 := by omega
          go_wp2_with (at_builtin; refine list_push _ rfl _ _ rfl w.heap.size vv _ rfl (hO1.alloc _) x W1.heap.size _ rfl (Blk.new _ _ _) (by rw [HL.out]; exact hmx) (by simp; exact Nat.le_trans hB1.size (Nat.le_succ _)) (by simp) ?_; intro g cap w4 hP4)
          go_roundw
          case rel => exact ⟨p + 1, _, by omega, by go_num, rfl, by rw [duL_succ, EX.out]; exact hP4.own, (hB1.alloc hB1.size _).trans (hP4.below (hO1.alloc _) (by simp; exact Nat.le_trans hB1.size (Nat.le_succ _)))⟩
          case measure => simp [intOf] <;> omega
        · obtain rfl : p = t.length := by omega
          rcases hO.form with ⟨_, h0⟩ | ⟨g, cap, rfl, hg0, hg1, hcap⟩
          · have h1 := duL_length t t.length; rw [h0] at h1; simp only [List.length_nil] at h1; omega
          rw [duL_length] at hO hcap ⊢
          have HG := hide (show ∀ j, j < t.length → wr.cell? ⟨g, j, none⟩ = some (.int .i64 (du t j)) from fun j hj => by have := hO.cell (duL_length t _).symm (k := j) hj; rwa [duL_gi hj] at this)
          have V := hV.le hBe
          have HV := hide V
          clear hO V hg0 hg1 hcap hlp
          go_wp2_with fail
          go_loopw [9] (fun i wx => ∃ p : Nat, p ≤ t.length ∧ i = .int .i64 p ∧ Hid (fs p (dfAt t) = none) ∧ ∃ d, wr.drewN d = wx) (fun i _ => t.length - (intOf i).toNat)
          case atStart => exact ⟨0, by omega, rfl, hide rfl, 0, rfl⟩
          case round =>
            obtain ⟨p, hp, rfl, HF, d, rfl⟩ := hrel
            by_cases hlp : p < t.length
            · have a1 := HG.out p hlp
              have hr := du_rng t p
              obtain ⟨x, ex⟩ : ∃ x, du t p = x := ⟨_, rfl⟩
              rw [ex] at a1 hr
              have EX := hide ex
              clear ex
              by_cases hx : x < 0
              · have HE := hide (flt_dual HU.out (fs_stop HF.out (dfAt_1 (by simp [dfB, EX.out, hx])) hlp))
                go_wp2_with fail
                go_ret
                refine cast (congrArg (fun o => MkO _ o _ _) HE.out.symm) (mkO_new (w0 := w) (xs := [1, p]) (Blk.new' _ _ _ _ rfl) rfl rfl (below_drewN hBe d).size (by unfold maxLen; omega) ((below_drewN hBe d).alloc (below_drewN hBe d).size _))
              · obtain ⟨m, rfl⟩ : ∃ m : Nat, x = (m : Int) := ⟨x.toNat, by omega⟩
                have hm : m < t.length := by omega
                have a2 := HG.out m hm
                obtain ⟨y, ey⟩ : ∃ y, du t m = y := ⟨_, rfl⟩
                rw [ey] at a2
                have EY := hide ey
                clear ey hr
                by_cases hy : y = p
                · subst hy
                  have HE := hide (fs_next HF.out (dfAt_no (by simp [dfB, EX.out, EY.out])))
                  go_wp2_with fail
                  go_roundw
                  case rel => exact ⟨p + 1, by omega, by go_num, HE, d, rfl⟩
                  case measure => simp [intOf] <;> omega
                · have HE := hide (flt_dual HU.out (fs_stop HF.out (dfAt_1 (by simp [dfB, EX.out, EY.out, hy])) hlp))
                  have hyb : (y != (p : Int)) = true := by simp [hy]
                  clear hy
                  go_wp2_with fail
                  go_ret
                  refine cast (congrArg (fun o => MkO _ o _ _) HE.out.symm) (mkO_new (w0 := w) (xs := [1, p]) (Blk.new' _ _ _ _ rfl) rfl rfl (below_drewN hBe d).size (by unfold maxLen; omega) ((below_drewN hBe d).alloc (below_drewN hBe d).size _))
            · obtain rfl : p = t.length := by omega
              have HD := hide (show dfF t = none from HF.out)
              have HM := hide (show ∀ j, j < t.length → ∃ m : Nat, du t j = m ∧ m < t.length from fun j hj => by have := dfB_t HD.out hj; exact ⟨(du t j).toNat, by omega, by omega⟩)
              clear hlp HF
              go_wp2_with fail
              go_loopw [10] (fun i wx => ∃ p : Nat, p ≤ t.length ∧ i = .int .i64 p ∧ Hid (fs p (fun i => fs t.length fun j => fs t.length fun k => turnAt t i j k) = none) ∧ ∃ d, wr.drewN d = wx) (fun i _ => t.length - (intOf i).toNat)
              case atStart => exact ⟨0, by omega, rfl, hide rfl, d, rfl⟩
              case round =>
                obtain ⟨i, hi, rfl, HF1, d, rfl⟩ := hrel
                by_cases hli : i < t.length
                · go_wp2_with fail
                  go_loopw [11] (fun s wx => ∃ p : Nat, p ≤ t.length ∧ s = .int .i64 p ∧ Hid (fs p (fun j => fs t.length fun k => turnAt t i j k) = none) ∧ ∃ d, wr.drewN d = wx) (fun i _ => t.length - (intOf i).toNat)
                  case atStart => exact ⟨0, by omega, rfl, hide rfl, d, rfl⟩
                  case round =>
                    obtain ⟨j, hj, rfl, HF2, d, rfl⟩ := hrel
                    by_cases hlj : j < t.length
                    · go_wp2_with fail
                      go_loopw [12] (fun s wx => ∃ p : Nat, p ≤ t.length ∧ s = .int .i64 p ∧ Hid (fs p (fun k => turnAt t i j k) = none) ∧ ∃ d, wr.drewN d = wx) (fun i _ => t.length - (intOf i).toNat)
                      case atStart => exact ⟨0, by omega, rfl, hide rfl, d, rfl⟩
                      case round =>
                        obtain ⟨k, hk, rfl, HF3, d, rfl⟩ := hrel
                        by_cases hlk : k < t.length
                        · obtain ⟨m1, em1, hm1⟩ := HM.out i hli
                          obtain ⟨m2, em2, hm2⟩ := HM.out j hlj
                          have g1 := HG.out i hli
                          have g2 := HG.out j hlj
                          rw [em1] at g1
                          rw [em2] at g2
                          have x1 := (HV.out.h1 i hli).1
                          have x2 := (HV.out.h2 i j hli hlj).1
                          have x3 := HV.out.h3 i j k hli hlj hlk
                          have y1 := (HV.out.h1 m1 hm1).1
                          have y2 := (HV.out.h2 m1 k hm1 hlk).1
                          have y3 := HV.out.h3 m1 k j hm1 hlk hlj
                          have z1 := (HV.out.h1 k hlk).1
                          have z2 := (HV.out.h2 k m2 hlk hm2).1
                          have z3 := HV.out.h3 k m2 i hlk hm2 hli
                          have EM1 := hide (show (du t i).toNat = m1 by omega)
                          have EM2 := hide (show (du t j).toNat = m2 by omega)
                          clear em1 em2
                          obtain ⟨x, ex⟩ : ∃ x, t3 t i j k = x := ⟨_, rfl⟩
                          obtain ⟨y, ey⟩ : ∃ y, t3 t m1 k j = y := ⟨_, rfl⟩
                          obtain ⟨z, ez⟩ : ∃ z, t3 t k m2 i = z := ⟨_, rfl⟩
                          rw [ex] at x3
                          rw [ey] at y3
                          rw [ez] at z3
                          have EX := hide ex
                          have EY := hide ey
                          have EZ := hide ez
                          clear ex ey ez
                          by_cases hxy : x = y
                          · by_cases hxz : x = z
                            · have HE := hide (fs_next HF3.out (turnAt_no (by rw [EM1.out, EX.out, EY.out, hxy]) (by rw [EM2.out, EX.out, EZ.out, hxz])))
                              subst hxy
                              subst hxz
                              go_wp2_with fail
                              go_quiet (fail)
                              go_wp2_with fail
                              go_roundw
                              case rel => exact ⟨k + 1, by omega, by go_num, HE, _, rfl⟩
                              case measure => simp [intOf] <;> omega
                            · have HE := hide (flt_turn HU.out HD.out (fs_stop HF1.out (fs_stop HF2.out (fs_stop HF3.out (turnAt_2 (by rw [EM2.out, EX.out, EZ.out]; exact hxz)) hlk) hlj) hli))
                              subst hxy
                              have hb1 : (x != z) = true := by simp [hxz]
                              clear hxz
                              go_wp2_with fail
                              go_quiet (fail)
                              go_wp2_with fail
                              go_ret
                              refine cast (congrArg (fun o => MkO _ o _ _) HE.out.symm) (mkO_new (w0 := w) (xs := [2, i, j, k]) (Blk.new' _ _ _ _ rfl) rfl rfl (below_drewN hBe d).size (by unfold maxLen; omega) ((below_drewN hBe _).alloc (below_drewN hBe _).size _))
                          · have HE := hide (flt_turn HU.out HD.out (fs_stop HF1.out (fs_stop HF2.out (fs_stop HF3.out (turnAt_1 (by rw [EM1.out, EX.out, EY.out]; exact hxy)) hlk) hlj) hli))
                            have hb1 : (x != y) = true := by simp [hxy]
                            clear hxy
                            go_wp2_with fail
                            go_quiet (fail)
                            go_wp2_with fail
                            go_ret
                            refine cast (congrArg (fun o => MkO _ o _ _) HE.out.symm) (mkO_new (w0 := w) (xs := [2, i, j, k]) (Blk.new' _ _ _ _ rfl) rfl rfl (below_drewN hBe d).size (by unfold maxLen; omega) ((below_drewN hBe _).alloc (below_drewN hBe _).size _))
                        · obtain rfl : k = t.length := by omega
                          have HE := hide (fs_next HF2.out HF3.out)
                          go_wp2_with fail
                          go_roundw
                          case rel => exact ⟨j + 1, by omega, by go_num, HE, d, rfl⟩
                          case measure => simp [intOf] <;> omega
                    · obtain rfl : j = t.length := by omega
                      have HE := hide (fs_next HF1.out HF2.out)
                      go_wp2_with fail
                      go_roundw
                      case rel => exact ⟨i + 1, by omega, by go_num, HE, d, rfl⟩
                      case measure => simp [intOf] <;> omega
                · obtain rfl : i = t.length := by omega
                  have HT := hide (show turnF t = none from HF1.out)
                  clear hli HF1
                  go_wp2_with fail
                  go_loopw [13] (fun i wx => ∃ p : Nat, p ≤ t.length ∧ i = .int .i64 p ∧ Hid (fs p (fun i => fs t.length fun j => fs t.length fun k => fs t.length fun l => brAt t i j k l) = none) ∧ ∃ d, wr.drewN d = wx) (fun i _ => t.length - (intOf i).toNat)
                  case atStart => exact ⟨0, by omega, rfl, hide rfl, d, rfl⟩
                  case round =>
                    obtain ⟨i, hi, rfl, HF1, d, rfl⟩ := hrel
                    by_cases hli : i < t.length
                    · go_wp2_with fail
                      go_loopw [14] (fun i' wx => ∃ p : Nat, p ≤ t.length ∧ i' = .int .i64 p ∧ Hid (fs p (fun j => fs t.length fun k => fs t.length fun l => brAt t i j k l) = none) ∧ ∃ d, wr.drewN d = wx) (fun i _ => t.length - (intOf i).toNat)
                      case atStart => exact ⟨0, by omega, rfl, hide rfl, d, rfl⟩
                      case round =>
                        obtain ⟨j, hj, rfl, HF2, d, rfl⟩ := hrel
                        by_cases hlj : j < t.length
                        · go_wp2_with fail
                          go_loopw [15] (fun i' wx => ∃ p : Nat, p ≤ t.length ∧ i' = .int .i64 p ∧ Hid (fs p (fun k => fs t.length fun l => brAt t i j k l) = none) ∧ ∃ d, wr.drewN d = wx) (fun i _ => t.length - (intOf i).toNat)
                          case atStart => exact ⟨0, by omega, rfl, hide rfl, d, rfl⟩
                          case round =>
                            obtain ⟨k, hk, rfl, HF3, d, rfl⟩ := hrel
                            by_cases hlk : k < t.length
                            · go_wp2_with fail
                              go_loopw [16] (fun i' wx => ∃ p : Nat, p ≤ t.length ∧ i' = .int .i64 p ∧ Hid (fs p (fun l => brAt t i j k l) = none) ∧ ∃ d, wr.drewN d = wx) (fun i _ => t.length - (intOf i).toNat)
                              case atStart => exact ⟨0, by omega, rfl, hide rfl, d, rfl⟩
                              case round =>
                                obtain ⟨l, hl, rfl, HF4, d, rfl⟩ := hrel
                                by_cases hll : l < t.length
                                · go_wp2_with fail
                                  go_loopw [17, 18, 19] (fun a' b' i' wx => ∃ (p : Nat) (a b : Int), p ≤ t.length ∧ i' = .int .i64 p ∧ a' = .int .i64 a ∧ b' = .int .i64 b ∧ Hid (a = brL t i j k l p) ∧ Hid (b = brR t i j k l p) ∧ 0 ≤ a ∧ a ≤ 16000000 ∧ 0 ≤ b ∧ b ≤ 16000000 ∧ ∃ d, wr.drewN d = wx) (fun _ _ i _ => t.length - (intOf i).toNat)
                                  case atStart => exact ⟨0, 0, 0, by omega, rfl, rfl, rfl, hide rfl, hide rfl, by omega, by omega, by omega, by omega, d, rfl⟩
                                  case round =>
                                    obtain ⟨m, a, b', hm, rfl, rfl, rfl, HA, HB, ha0, ha1, hb0, hb1, d, rfl⟩ := hrel
                                    by_cases hlm : m < t.length
                                    · have x1 := (HV.out.h1 i hli).1
                                      have x2 := (HV.out.h2 i j hli hlj).1
                                      have x3 := HV.out.h3 i j m hli hlj hlm
                                      have y1 := (HV.out.h1 m hlm).1
                                      have y2 := (HV.out.h2 m k hlm hlk).1
                                      have y3 := HV.out.h3 m k l hlm hlk hll
                                      have z1 := (HV.out.h1 j hlj).1
                                      have z2 := (HV.out.h2 j k hlj hlk).1
                                      have z3 := HV.out.h3 j k m hlj hlk hlm
                                      have u2 := (HV.out.h2 i m hli hlm).1
                                      have u3 := HV.out.h3 i m l hli hlm hll
                                      have n1 := mul_1000 (hR i j m hli hlj hlm) (hR m k l hlm hlk hll)
                                      have n2 := mul_1000 (hR j k m hlj hlk hlm) (hR i m l hli hlm hll)
                                      have HA' := hide (show brL t i j k l (m + 1) = a + t3 t i j m * t3 t m k l by rw [HA.out]; rfl)
                                      have HB' := hide (show brR t i j k l (m + 1) = b' + t3 t j k m * t3 t i m l by rw [HB.out]; rfl)
                                      have q1 := (sm_rng (f := fun m => t3 t i j m * t3 t m k l) (n := m + 1) fun q hq => mul_1000 (hR i j q hli hlj (by omega)) (hR q k l (by omega) hlk hll))
                                      have q2 := (sm_rng (f := fun m => t3 t j k m * t3 t i m l) (n := m + 1) fun q hq => mul_1000 (hR j k q hlj hlk (by omega)) (hR i q l hli (by omega) hll))
                                      have q3 : 0 ≤ a + t3 t i j m * t3 t m k l ∧ a + t3 t i j m * t3 t m k l ≤ 16000000 := by rw [← HA'.out]; unfold brL; omega
                                      have q4 : 0 ≤ b' + t3 t j k m * t3 t i m l ∧ b' + t3 t j k m * t3 t i m l ≤ 16000000 := by rw [← HB'.out]; unfold brR; omega
                                      clear q1 q2
                                      obtain ⟨x, ex⟩ : ∃ x, t3 t i j m = x := ⟨_, rfl⟩
                                      obtain ⟨y, ey⟩ : ∃ y, t3 t m k l = y := ⟨_, rfl⟩
                                      obtain ⟨z, ez⟩ : ∃ z, t3 t j k m = z := ⟨_, rfl⟩
                                      obtain ⟨v, ev⟩ : ∃ v, t3 t i m l = v := ⟨_, rfl⟩
                                      rw [ex] at x3 n1 q3 HA'
                                      rw [ey] at y3 n1 q3 HA'
                                      rw [ez] at z3 n2 q4 HB'
                                      rw [ev] at u3 n2 q4 HB'
                                      clear ex ey ez ev
                                      have r1 : IntKind.i64.wrap (x * y) = x * y := wr64 _ ⟨by omega, by omega⟩
                                      have r2 : IntKind.i64.wrap (a + x * y) = a + x * y := wr64 _ ⟨by omega, by omega⟩
                                      have r3 : IntKind.i64.wrap (z * v) = z * v := wr64 _ ⟨by omega, by omega⟩
                                      have r4 : IntKind.i64.wrap (b' + z * v) = b' + z * v := wr64 _ ⟨by omega, by omega⟩
                                      go_wp2_with fail
                                      go_quiet (fail)
                                      go_wp2_with fail
                                      go_quiet (fail)
                                      go_wp2_with fail
                                      go_roundw
                                      case rel => exact ⟨m + 1, _, _, by omega, by go_num, rfl, rfl, hide HA'.out.symm, hide HB'.out.symm, q3.1, q3.2, q4.1, q4.2, _, rfl⟩
                                      case measure => simp [intOf] <;> omega
                                    · obtain rfl : m = t.length := by omega
                                      by_cases hab : a = b'
                                      · have HE := hide (fs_next HF4.out (brAt_no (by rw [← HA.out, ← HB.out, hab])))
                                        subst hab
                                        go_wp2_with fail
                                        go_roundw
                                        case rel => exact ⟨l + 1, by omega, by go_num, HE, d, rfl⟩
                                        case measure => simp [intOf] <;> omega
                                      · have HE := hide (flt_br HU.out HD.out HT.out (fs_stop HF1.out (fs_stop HF2.out (fs_stop HF3.out (fs_stop HF4.out (brAt_1 (by rw [← HA.out, ← HB.out]; exact hab)) hll) hlk) hlj) hli))
                                        have hab' : (a != b') = true := by simp [hab]
                                        clear hab
                                        go_wp2_with fail
                                        go_ret
                                        refine cast (congrArg (fun o => MkO _ o _ _) HE.out.symm) (mkO_new (w0 := w) (xs := [3, i, j, k, l]) (Blk.new' _ _ _ _ rfl) rfl rfl (below_drewN hBe d).size (by unfold maxLen; omega) ((below_drewN hBe _).alloc (below_drewN hBe _).size _))
                                · obtain rfl : l = t.length := by omega
                                  have HE := hide (fs_next HF3.out HF4.out)
                                  go_wp2_with fail
                                  go_roundw
                                  case rel => exact ⟨k + 1, by omega, by go_num, HE, d, rfl⟩
                                  case measure => simp [intOf] <;> omega
                            · obtain rfl : k = t.length := by omega
                              have HE := hide (fs_next HF2.out HF3.out)
                              go_wp2_with fail
                              go_roundw
                              case rel => exact ⟨j + 1, by omega, by go_num, HE, d, rfl⟩
                              case measure => simp [intOf] <;> omega
                        · obtain rfl : j = t.length := by omega
                          have HE := hide (fs_next HF1.out HF2.out)
                          go_wp2_with fail
                          go_roundw
                          case rel => exact ⟨i + 1, by omega, by go_num, HE, d, rfl⟩
                          case measure => simp [intOf] <;> omega
                    · obtain rfl : i = t.length := by omega
                      have HE := hide (flt_br HU.out HD.out HT.out (show brF t = none from HF1.out))
                      go_wp2_with fail
                      go_ret
                      exact cast (congrArg (fun o => MkO _ o _ _) HE.out.symm) (MkO.no (below_drewN hBe _))
end Go.Proofs.Yteobaodabjdcaaa
