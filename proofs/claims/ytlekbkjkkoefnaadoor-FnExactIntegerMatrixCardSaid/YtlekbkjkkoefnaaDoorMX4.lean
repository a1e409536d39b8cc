
/- Integer matrices of words: the program's IntegerMatrix, the reference's. -/
import Derived.Test.YtlekbkjkkoefnaaDoorMX3
import Derived.Test.YtlekbkjkkoefnaaDoorGa
import Derived.Test.YtlekbkjkkoefnaaDoorKRw
namespace Go.Proofs.YtlekbkjkkoefnaaDoor
open Go Go.RowKit
set_option linter.unusedSimpArgs false
set_option linter.unusedVariables false
set_option maxRecDepth 100000
/-! ### plain -/
/-- Numbers within the limit. -/
def inM (x : Int) : Bool := decide (-999999999999 ≤ x ∧ x ≤ 999999999999)
/-- A matrix of two rows within the limit. -/
def okW (m : List (List Int)) : Bool := m.all fun r => allIn (-999999999999) 999999999999 r
/-- A product of two matrices. -/
def mmul (m l : List (List Int)) : List (List Int) := wsm (en m 0 0) (en m 0 1) (en m 1 0) (en m 1 1) (en l 0 0) (en l 0 1) (en l 1 0) (en l 1 1) 8
/-- The matrix of the first k letters, if no number passes the limit on the way. -/
def wordM (s : ByteArray) : Nat → Option (List (List Int))
  | 0 => some (mt2 1 0 0 1)
  | k + 1 => match wordM s k with
    | none => none
    | some m => if okW (mmul m (lmx (sb s k))) = true then some (mmul m (lmx (sb s k))) else none
def Two (m : List (List Int)) : Prop := ∃ a b c d, m = mt2 a b c d ∧ (-999999999999 ≤ a ∧ a ≤ 999999999999) ∧ (-999999999999 ≤ b ∧ b ≤ 999999999999) ∧ (-999999999999 ≤ c ∧ c ≤ 999999999999) ∧ (-999999999999 ≤ d ∧ d ≤ 999999999999)
theorem mmul_two {m : List (List Int)} (h : Two m) (x : Nat) : ∃ a b c d p q r s, m = mt2 a b c d ∧ lmx x = mt2 p q r s ∧ Bd 1000000000000 a b c d p q r s ∧ mmul m (lmx x) = wsm a b c d p q r s 8 ∧ mmul m (lmx x) = mt2 (a * p + b * r) (a * q + b * s) (c * p + d * r) (c * q + d * s) := by
  obtain ⟨a, b, c, d, rfl, ha, hb, hc, hd⟩ := h
  obtain ⟨p, q, r, s, hl, hp, hq, hr, hs⟩ := lmx_two x
  refine ⟨a, b, c, d, p, q, r, s, rfl, hl, ⟨by omega, by omega, by omega, by omega, hp, hq, hr, hs⟩, ?_, ?_⟩
  · unfold mmul; rw [hl]; rfl
  · unfold mmul; rw [hl]; rfl
theorem okW_two {a b c d : Int} (h : okW (mt2 a b c d) = true) : Two (mt2 a b c d) := by
  unfold okW mt2 allIn at h
  simp [inB] at h
  exact ⟨a, b, c, d, rfl, by omega, by omega, by omega, by omega⟩
theorem wordM_two {s : ByteArray} : ∀ {k : Nat} {m : List (List Int)}, wordM s k = some m → Two m := by
  intro k
  induction k with
  | zero => intro m h; cases h; exact ⟨1, 0, 0, 1, rfl, by omega, by omega, by omega, by omega⟩
  | succ k ih =>
    intro m h
    unfold wordM at h
    cases hk : wordM s k with
    | none => rw [hk] at h; cases h
    | some m0 =>
      rw [hk] at h
      simp only at h
      split at h
      · rename_i ho
        obtain ⟨a, b, c, d, p, q, r, t, -, -, -, -, e⟩ := mmul_two (ih hk) (sb s k)
        rw [e] at h ho
        cases h
        exact okW_two ho
      · cases h
theorem wordM_none {s : ByteArray} {k n : Nat} (h : wordM s k = none) (hn : k ≤ n) : wordM s n = none := by
  induction n with
  | zero => have : k = 0 := by omega
            rw [← this]; exact h
  | succ n ih =>
    rcases Nat.lt_or_ge n k with h1 | h1
    · have : k = n + 1 := by omega
      rw [← this]; exact h
    · unfold wordM; rw [ih h1]
theorem wordM_yes {s : ByteArray} {k : Nat} {m : List (List Int)} (h : wordM s k = some m) (ho : okW (mmul m (lmx (sb s k))) = true) : wordM s (k + 1) = some (mmul m (lmx (sb s k))) := by
  unfold wordM; rw [h]; simp only; rw [if_pos ho]
theorem wordM_no {s : ByteArray} {k n : Nat} {m : List (List Int)} (h : wordM s k = some m) (ho : okW (mmul m (lmx (sb s k))) = false) (hn : k < n) : wordM s n = none := by
  refine wordM_none (k := k + 1) ?_ hn
  unfold wordM; rw [h]; simp only; rw [if_neg (by rw [ho]; exact Bool.false_ne_true)]
/-- What both return. -/
def imR (s : ByteArray) : List (List Int) := if wordB s = true then (wordM s s.size).getD [] else []
def imK (s : ByteArray) : Int := if wordB s = true then match wordM s s.size with | some _ => 0 | none => 3 else 6
set_option maxHeartbeats 8000000 in
theorem impl_IM2_any (w : World) (s : ByteArray) (hs : s.size ≤ 1048576) : Calls Tryd.prog 30 #[.string s] w (MkEC E2 w (imR s) (imK s)) := by
  cases hw : wordB s with
  | false =>
    have hR := hide (show imR s = [] by unfold imR; rw [hw]; rfl)
    have hC := hide (show imK s = 6 by unfold imK; rw [hw]; rfl)
    have hW := isWord_any w s hs
    rw [hw] at hW
    go_enter Tryd.func30, Tryd.ntmps30
    go_wp2_with fail
    refine hW.mono ?_
    rintro e w1 ⟨rfl, hb1⟩
    go_wp2_with fail
    refine bodyPost_ret (v := .tuple #[.slice none 0 0, .int .i64 6]) (by simp [results, Tryd.results30, go_sem]) rfl ?_
    exact ⟨_, by rw [hC.out], by rw [hR.out]; exact (Grow.nil w1).toL.mono (fun b hb => hb) (fun b hb => hb.2), hb1⟩
  | true =>
    have hW := isWord_any w s hs
    rw [hw] at hW
    have HW := hide hw
    have hn60 : s.size ≤ 60 := by
      unfold wordB at hw
      rw [Bool.and_eq_true, decide_eq_true_eq] at hw
      exact hw.2
    obtain ⟨n, hn⟩ : ∃ n, s.size = n := ⟨_, rfl⟩
    have HN := hide hn
    clear hw
    go_enter Tryd.func30, Tryd.ntmps30
    go_wp2_with fail
    refine hW.mono ?_
    rintro e w1 ⟨rfl, hb1⟩
    go_wp2_with fail
    refine (unitMatrix_any _).mono ?_
    rintro e w2 ⟨v, rfl, hE, hb2⟩
    have hs1 := hb1.size
    have hs2 := hb2.size
    have hE0 : E2 w2 v (mt2 1 0 0 1) (fun b => w.heap.size ≤ b ∧ b < w2.heap.size) := OwL.mono hE (fun b hb => ⟨by have := hb.1; omega, hb.2⟩) (fun b hb => hb.2)
    have hB0 := hb1.trans (hb2.mono hs1)
    clear hE hb1 hb2 hW
    go_wp2_with fail
    go_loopw [4, 14] (fun mm i wr => ∃ (k : Nat) (M : List (List Int)), k ≤ n ∧ i = .int .i64 k ∧ Hid (wordM s k = some M) ∧ E2 wr mm M (fun b => w.heap.size ≤ b ∧ b < wr.heap.size) ∧ Below w.heap.size w wr) (fun _ i _ => n - (intOf i).toNat)
    case atStart => exact ⟨0, _, by omega, rfl, hide rfl, hE0, hB0⟩
    case round =>
      clear hE0 hB0 hs1 hs2
      obtain ⟨k, M, hk, rfl, HM, hE, hBe⟩ := hrel
      by_cases hlt : k < n
      · have hx : ∀ h : k < s.size, (s[k]'h).toNat = sb s k := fun h => sb_get s h
        have hks : k < s.size := by rw [hn]; exact hlt
        obtain ⟨x, ex⟩ : ∃ x, sb s k = x := ⟨_, rfl⟩
        have hx256 := sb_lt s k
        obtain ⟨a, b, c, d, p, q, r, t, hM, hl, hBd, hw1, hw2⟩ := mmul_two (wordM_two HM.out) (sb s k)
        rw [ex] at hl hw1 hw2 hx256
        simp only [ex] at hx
        have HX := hide ex
        have HL := hide hl
        have HW1 := hide hw1
        have HW2 := hide hw2
        have HMM := hide hM
        clear ex hl hw1 hw2 hM
        have hsz := hBe.size
        go_wp2_with fail
        refine (letterMatrix_any _ x (by omega)).mono ?_
        rintro e w2 ⟨v2, rfl, hE2, hb2⟩
        have hs2 := hb2.size
        obtain ⟨v1, hv1⟩ : ∃ v1, v1 = u4 := ⟨_, rfl⟩
        have hEa := E2.below hE hb2
        rw [HMM.out] at hEa
        rw [HL.out] at hE2
        obtain ⟨A1, c1, e1, sA⟩ := E2.sl2 hEa
        obtain ⟨A2, c2, rfl, sB⟩ := E2.sl2 hE2
        subst e1
        subst hv1
        have hB2 := hBe.trans (hb2.mono hsz)
        clear hE hE2 hEa hBe
        have la : (mt2 a b c d).length = 2 := rfl
        have lb : (mt2 p q r t).length = 2 := rfl
        rw [la] at sA ⊢
        rw [lb] at sB ⊢
        go_wp2_with fail
        refine (whole_any w2 A1 c1 A2 c2 a b c d p q r t sA sB hBd).mono ?_
        rintro e w3 ⟨v3, rfl, hE3, hb3⟩
        have hs3 := hb3.size
        have hB3 := hB2.trans (hb3.mono (by omega))
        clear sA sB hb2 hb3 hB2 hBd
        rw [← HW1.out, HW2.out] at hE3
        generalize a * p + b * r = a' at *
        generalize a * q + b * t = b' at *
        generalize c * p + d * r = c' at *
        generalize c * q + d * t = d' at *
        replace hE3 : E2 w3 v3 (mt2 a' b' c' d') (fun b => w.heap.size ≤ b ∧ b < w3.heap.size) := OwL.mono hE3 (fun b hb => ⟨by have := hb.1; omega, hb.2⟩) (fun b hb => hb.2)
        obtain ⟨A3, c3, rfl, s3⟩ := E2.sl2 hE3
        have l2 : (mt2 a' b' c' d').length = 2 := rfl
        rw [l2] at hE3 s3
        obtain ⟨ab, ao, rfl, hab⟩ := RdL.addr s3 (by omega)
        have HOk := hide (show okW (mt2 a' b' c' d') = (allIn (-999999999999) 999999999999 [a', b'] && allIn (-999999999999) 999999999999 [c', d']) by simp [okW, mt2])
        go_wp2_with fail
        go_loopw [25] (fun jj wx => ∃ j : Nat, j ≤ 2 ∧ jj = .int .i64 j ∧ Hid (∀ i r, i < j → (mt2 a' b' c' d')[i]? = some r → allIn (-999999999999) 999999999999 r = true) ∧ Below w3.heap.size w3 wx) (fun jj _ => 2 - (intOf jj).toNat)
        case atStart => exact ⟨0, by omega, rfl, hide fun i r hi => absurd hi (by omega), Below.refl _ _⟩
        case round =>
          obtain ⟨j, hj, rfl, HJ, hBx⟩ := hrel
          have hsx := hBx.size
          by_cases hlj : j < 2
          · obtain ⟨row, hr, hrl, hrg⟩ := mt2_row a' b' c' d' hlj
            obtain ⟨A5, n5, c5, cc5, s5⟩ := (s3.below hBx).row hr
            have l5 := s5.len
            rw [hrl] at l5
            subst l5
            have HR := hide hr
            clear hr hrg
            cases hal : allIn (-999999999999) 999999999999 row with
            | true =>
              have HA := hide hal
              go_wp2_with fail
              refine (allWithin_any _ _ _ _ _ _ _ _ (by exact s5) (by omega) (by omega)).mono ?_
              rintro e w5 ⟨rfl, hb5⟩
              rw [HA.out]
              go_wp2_with fail
              go_roundw
              case rel => exact ⟨j + 1, by omega, by go_num, hide fun i r hi hr => by
                rcases Nat.lt_succ_iff_lt_or_eq.1 hi with h2 | rfl
                · exact HJ.out i r h2 hr
                · rw [HR.out] at hr; cases hr; exact HA.out, hBx.trans (hb5.mono hsx)⟩
              case measure => simp [intOf] <;> omega
            | false =>
              have HA := hide hal
              have hno : okW (mt2 a' b' c' d') = false := by
                unfold okW
                refine Bool.eq_false_iff.2 fun h => ?_
                have := List.all_eq_true.1 h row (List.mem_of_getElem? HR.out)
                rw [HA.out] at this; cases this
              have hN : wordM s s.size = none := by
                refine wordM_no HM.out ?_ (by omega)
                rw [HX.out, HW2.out]; exact hno
              have hR := hide (show imR s = [] by unfold imR; rw [HW.out, hN]; rfl)
              have hC := hide (show imK s = 3 by unfold imK; rw [HW.out, hN]; rfl)
              clear hN hno
              go_wp2_with fail
              refine (allWithin_any _ _ _ _ _ _ _ _ (by exact s5) (by omega) (by omega)).mono ?_
              rintro e w5 ⟨rfl, hb5⟩
              rw [HA.out]
              go_wp2_with fail
              refine bodyPost_ret (v := .tuple #[.slice none 0 0, .int .i64 3]) (by simp [results, Tryd.results30, go_sem]) rfl ?_
              exact ⟨_, by rw [hC.out], by rw [hR.out]; exact (Grow.nil w5).toL.mono (fun b hb => hb) (fun b hb => hb.2), (hB3.trans (hBx.mono (by omega))).trans (hb5.mono (by omega))⟩
          · obtain rfl : j = 2 := by omega
            have hok : okW (mt2 a' b' c' d') = true := by
              rw [HOk.out, HJ.out 0 _ (by omega) rfl, HJ.out 1 _ (by omega) rfl]; rfl
            have hnew := wordM_yes HM.out (by rw [HX.out, HW2.out]; exact hok)
            rw [HX.out, HW2.out] at hnew
            have HNew := hide hnew
            have hE4 := OwL.mono (E2.below hE3 hBx) (fun b hb => ⟨hb.1, Nat.lt_of_lt_of_le hb.2 hsx⟩) (fq := fun b => w.heap.size ≤ b ∧ b < wr.heap.size) (fun b hb => hb.2)
            have hB4 := hB3.trans (hBx.mono (by omega))
            clear hnew hok s3
            go_wp2_with fail
            go_roundw
            case rel => exact ⟨k + 1, _, by omega, by go_num, HNew, hE4, hB4⟩
            case measure => simp [intOf] <;> omega
      · obtain rfl : k = n := by omega
        have hN : wordM s s.size = some M := by rw [hn]; exact HM.out
        have hR := hide (show imR s = M by unfold imR; rw [HW.out, hN]; rfl)
        have hC := hide (show imK s = 0 by unfold imK; rw [HW.out, hN]; rfl)
        clear hN
        go_wp2_with fail
        refine bodyPost_ret (v := .tuple #[u4, .int .i64 0]) (by simp [results, Tryd.results30, go_sem]) rfl ?_
        exact ⟨_, by rw [hC.out], by rw [hR.out]; exact hE, hBe⟩
end Go.Proofs.YtlekbkjkkoefnaaDoor
