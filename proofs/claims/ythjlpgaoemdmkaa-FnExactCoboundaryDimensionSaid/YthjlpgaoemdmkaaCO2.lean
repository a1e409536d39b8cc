
/- The walks of l17Pairing of the reference, and of the codes of both sides. -/
import Derived.Test.YthjlpgaoemdmkaaCO1
namespace Go.Proofs.Ythjlpgaoemdmkaa
open Go Go.RowKit Grp
set_option linter.unusedSimpArgs false
set_option linter.unusedVariables false
set_option maxRecDepth 100000
set_option maxHeartbeats 4000000 in
theorem l17Pairing_any (w : World) (A : Option Addr) (k c n : Nat) (M : Int) (f : List (List Int)) (h : Sl2 w w.heap.size A k c f) (hk : k ≤ 1048576) (hr : ∀ r ∈ f, r.length ≤ 1048576) (m1 : 1 ≤ M) (m2 : M ≤ 1000) (n1 : 1 ≤ n) (n8 : n ≤ 1000) :
    Calls Try.prog 93 #[.int .i64 n, .int .i64 M, .slice A k c] w (Qt w (.bool (prB n M f))) := by
  have hlen := h.len
  by_cases hl : k = n
  rotate_left
  · have hE := hide (prB_f (n := n) (M := M) (f := f) fun hc => hl (by rw [← hlen]; exact hc.mat.1))
    have hlb : ((k : Int) != (n : Int)) = true := by simp; omega
    clear hl hlen
    go_enter Try.func93, Try.ntmps93
    go_wp2_with fail
    go_ret
    exact Qt.mk' 0 rfl (bool_eq hE.out.symm)
  subst hl
  have HLN := hide hlen
  clear hlen
  obtain ⟨b, off, rfl, hb⟩ := RdL.addr h (by omega)
  go_enter Try.func93, Try.ntmps93
  go_wp2_with fail
  go_loopw [7] (fun i wr => ∃ x : Nat, x ≤ k ∧ i = .int .i64 x ∧ Hid (∀ (j : Nat) r, j < x → f[j]? = some r → RowM k M r ∧ ∀ i, i < k → (j = 0 ∨ i = 0) → gi r i = 0) ∧ ∃ d, w.drewN d = wr) (fun i _ => k - (intOf i).toNat)
  case atStart => exact ⟨0, by omega, rfl, hide fun j r hj => absurd hj (by omega), 0, rfl⟩
  case round =>
    obtain ⟨x, hx, rfl, HP, d, rfl⟩ := hrel
    by_cases hlx : x < k
    · obtain ⟨r, hrr⟩ := get_at (xs := f) (k := x) (by rw [HLN.out]; exact hlx)
      obtain ⟨A2, n2, c2, e2, hs2⟩ := h.row hrr
      obtain rfl := hs2.len
      have HR := hide hrr
      by_cases hl2 : r.length = k
      rotate_left
      · have hE := hide (not_pr_row (n := k) (M := M) hrr hl2)
        have hl2' : ((r.length : Int) != (k : Int)) = true := by simp; omega
        clear hrr hl2
        go_wp2_with fail
        go_ret
        exact Qt.mk' d rfl (bool_eq hE.out.symm)
      have hl2' : ((r.length : Int) != (k : Int)) = false := by simp [hl2]
      have HL2 := hide hl2
      clear hrr hl2
      obtain ⟨b2, off2, rfl, hb2⟩ := Sl.addr hs2 (by have := HL2.out; omega)
      go_wp2_with fail
      go_loopw [8] (fun i wr => ∃ y : Nat, y ≤ k ∧ i = .int .i64 y ∧ Hid (∀ j, j < y → (0 ≤ gi r j ∧ gi r j ≤ M - 1) ∧ ((x = 0 ∨ j = 0) → gi r j = 0)) ∧ ∃ d, w.drewN d = wr) (fun i _ => k - (intOf i).toNat)
      case atStart => exact ⟨0, by omega, rfl, hide fun j hj => absurd hj (by omega), d, rfl⟩
      case round =>
        clear d
        obtain ⟨y, hy, rfl, HY, d, rfl⟩ := hrel
        by_cases hly : y < k
        · have e3 := hs2.row (k := y) (by rw [HL2.out]; exact hly)
          have iyl : (y : Int) < (r.length : Int) := by have := HL2.out; omega
          have hwm : IntKind.i64.wrap (M - 1) = M - 1 := wr64 _ ⟨by omega, by omega⟩
          obtain ⟨v, ev⟩ : ∃ v, gi r y = v := ⟨_, rfl⟩
          have EV := hide ev
          rw [ev] at e3
          clear ev
          by_cases hv : 0 ≤ v ∧ v ≤ M - 1
          · by_cases hz : (x = 0 ∨ y = 0) → v = 0
            · have HN := hide (show ∀ j, j < y + 1 → (0 ≤ gi r j ∧ gi r j ≤ M - 1) ∧ ((x = 0 ∨ j = 0) → gi r j = 0) from fun j hj => by
                rcases Nat.lt_succ_iff_lt_or_eq.1 hj with h | rfl
                · exact HY.out j h
                · rw [EV.out]; exact ⟨hv, hz⟩)
              by_cases hx0 : x = 0
              · have t1 : ((x : Int) == 0) = true := by simp [hx0]
                have t2 : (v != 0) = false := by simp [hz (.inl hx0)]
                clear hx0 hz
                go_wp2_with fail
                refine (l01In_t v 0 (M - 1) _ hv.1 hv.2).mono ?_
                rintro e w' ⟨rfl, m, rfl⟩
                go_wp2_with fail
                go_roundw
                case rel => exact ⟨y + 1, by omega, by go_num, HN, _, rfl⟩
                case measure => simp [intOf] <;> omega
              · have t1 : ((x : Int) == 0) = false := by simp [hx0]
                by_cases hy0 : y = 0
                · have t3 : ((y : Int) == 0) = true := by simp [hy0]
                  have t2 : (v != 0) = false := by simp [hz (.inr hy0)]
                  clear hx0 hy0 hz
                  go_wp2_with fail
                  refine (l01In_t v 0 (M - 1) _ hv.1 hv.2).mono ?_
                  rintro e w' ⟨rfl, m, rfl⟩
                  go_wp2_with fail
                  go_roundw
                  case rel => exact ⟨y + 1, by omega, by go_num, HN, _, rfl⟩
                  case measure => simp [intOf] <;> omega
                · have t3 : ((y : Int) == 0) = false := by simp [hy0]
                  clear hx0 hy0 hz
                  go_wp2_with fail
                  refine (l01In_t v 0 (M - 1) _ hv.1 hv.2).mono ?_
                  rintro e w' ⟨rfl, m, rfl⟩
                  go_wp2_with fail
                  go_roundw
                  case rel => exact ⟨y + 1, by omega, by go_num, HN, _, rfl⟩
                  case measure => simp [intOf] <;> omega
            · obtain ⟨hz0, hvz⟩ := Classical.not_imp.1 hz
              have hE := hide (not_pr_z (n := k) (M := M) HR.out hlx hly hz0 (by rw [EV.out]; exact hvz))
              have t2 : (v != 0) = true := by simp [hvz]
              by_cases hx0 : x = 0
              · have t1 : ((x : Int) == 0) = true := by simp [hx0]
                clear hx0 hz hz0 hvz
                go_wp2_with fail
                refine (l01In_t v 0 (M - 1) _ hv.1 hv.2).mono ?_
                rintro e w' ⟨rfl, m, rfl⟩
                go_wp2_with fail
                go_ret
                exact Qt.mk' _ rfl (bool_eq hE.out.symm)
              · have t1 : ((x : Int) == 0) = false := by simp [hx0]
                have hy0 : y = 0 := by omega
                have t3 : ((y : Int) == 0) = true := by simp [hy0]
                clear hx0 hy0 hz hz0 hvz
                go_wp2_with fail
                refine (l01In_t v 0 (M - 1) _ hv.1 hv.2).mono ?_
                rintro e w' ⟨rfl, m, rfl⟩
                go_wp2_with fail
                go_ret
                exact Qt.mk' _ rfl (bool_eq hE.out.symm)
          · have hE := hide (not_pr_num (n := k) (M := M) HR.out (i := y) (by rw [HL2.out]; exact hly) (by rw [EV.out]; exact hv))
            go_wp2_with fail
            refine (l01In_f v 0 (M - 1) _ hv).mono ?_
            rintro e w' ⟨rfl, m, rfl⟩
            go_wp2_with fail
            go_ret
            exact Qt.mk' _ rfl (bool_eq hE.out.symm)
        · obtain rfl : k = y := by omega
          have HN := hide (show ∀ (j : Nat) s, j < x + 1 → f[j]? = some s → RowM k M s ∧ ∀ i, i < k → (j = 0 ∨ i = 0) → gi s i = 0 from fun j s hj hs => by
            rcases Nat.lt_succ_iff_lt_or_eq.1 hj with h | rfl
            · exact HP.out j s h hs
            · have := HR.out
              rw [hs] at this
              injection this with this
              subst this
              exact ⟨rowM_of HL2.out fun i hi => (HY.out i hi).1, fun i hi => (HY.out i hi).2⟩)
          go_wp2_with fail
          go_roundw
          case rel => exact ⟨x + 1, by omega, by go_num, HN, d, rfl⟩
          case measure => simp [intOf] <;> omega
    · obtain rfl : k = x := by omega
      have hE := hide (prB_t (isPr_of HLN.out HP.out))
      go_wp2_with fail
      go_ret
      exact Qt.mk' _ rfl (bool_eq hE.out.symm)

def codeO (os : List Int) (most : Int) : Int := if gsz os = 0 then 1 else if most < gsz os then 3 else 0
theorem ordersCode_any (w : World) (B : Nat) (A : Option Addr) (n c : Nat) (xs : List Int) (most : Int) (h : Sl w B A n c xs) (hn : n ≤ 1048576) : Calls Try.prog 103 #[.slice A n c, .int .i64 most] w (Qt w (.int .i64 (codeO xs most))) := by
  unfold codeO
  by_cases h0 : gsz xs = 0
  · rw [if_pos h0]
    have k : (gsz xs == 0) = true := by simpa using h0
    clear h0
    go_enter Try.func103, Try.ntmps103
    go_wp2_with fail
    refine (groupSize_any _ B _ _ _ _ h hn).mono ?_
    rintro e w' ⟨rfl, m, rfl⟩
    go_wp2
    go_ret
    exact Qt.d1 rfl
  · rw [if_neg h0]
    have k : (gsz xs == 0) = false := by simpa using h0
    by_cases h1 : most < gsz xs
    · rw [if_pos h1]
      go_enter Try.func103, Try.ntmps103
      go_wp2_with fail
      refine (groupSize_any _ B _ _ _ _ h hn).mono ?_
      rintro e w' ⟨rfl, m, rfl⟩
      go_wp2
      go_ret
      exact Qt.d1 rfl
    · rw [if_neg h1]
      go_enter Try.func103, Try.ntmps103
      go_wp2_with fail
      refine (groupSize_any _ B _ _ _ _ h hn).mono ?_
      rintro e w' ⟨rfl, m, rfl⟩
      go_wp2
      go_ret
      exact Qt.d1 rfl
/-- The code of orders with at most a number of elements. -/
noncomputable def cdO (os : List Int) (most : Int) : Int := if ordHB os = false then 1 else if most < prodL os then 3 else 0
theorem codeO_eq {os : List Int} {most : Int} (h0 : 0 ≤ most) (h : most ≤ 16) : codeO os most = cdO os most := by
  unfold codeO cdO
  cases ho : ordHB os with
  | false => rw [gsz_no (fun hc => by rw [ordHB_t hc] at ho; cases ho)]; simp
  | true =>
    have hO := ordHB_iff.1 ho
    have hp := prodL_pos hO.2
    rw [gsz_ok hO]
    simp only [Bool.true_eq_false, if_false]
    by_cases h1 : most < prodL os
    · rw [if_neg (by omega), if_pos (by omega), if_pos h1]
    · rw [if_neg (by omega), if_neg (by omega), if_neg h1]
theorem cdO_0 {os : List Int} {most : Int} (h : cdO os most = 0) : OrdH os ∧ prodL os ≤ most := by
  unfold cdO at h
  cases ho : ordHB os with
  | false => rw [ho] at h; simp at h
  | true =>
    rw [ho] at h
    simp only [Bool.true_eq_false, if_false] at h
    split at h
    · cases h
    · exact ⟨ordHB_iff.1 ho, by omega⟩
/-- The code of orders, a modulus and a pairing. -/
noncomputable def cobK (os : List Int) (M : Int) (f : List (List Int)) : Int := if cdO os 8 = 0 then if inB M 1 1000 = true then if prB (prodL os).toNat M f = true then 0 else 2 else 2 else cdO os 8
set_option maxHeartbeats 2000000 in
theorem pairingCode_any (w : World) (A : Option Addr) (n c : Nat) (os : List Int) (M : Int) (D : Option Addr) (k e : Nat) (f : List (List Int)) (h : Sl w w.heap.size A n c os) (hn : n ≤ 1048576) (hf : Sl2 w w.heap.size D k e f) (hk : k ≤ 1048576) (hr : ∀ r ∈ f, r.length ≤ 1048576) :
    Calls Try.prog 95 #[.slice A n c, .int .i64 M, .slice D k e] w (Re w (.int .i64 (cobK os M f))) := by
  have HO := hide (fun W (hW : Sl W w.heap.size A n c os) => by
    have h9 := ordersCode_any W _ A n c os 8 hW hn
    rw [codeO_eq (by omega) (by omega)] at h9
    exact h9)
  by_cases h0 : cdO os 8 = 0
  rotate_left
  · have hE := hide (show cobK os M f = cdO os 8 by unfold cobK; rw [if_neg h0])
    obtain ⟨q, hq⟩ : ∃ q, cdO os 8 = q := ⟨_, rfl⟩
    rw [hq] at HO hE h0
    have t : (q != 0) = true := by simp [h0]
    clear h0 hq
    go_enter Try.func95, Try.ntmps95
    go_wp2_with fail
    refine (HO.out _ h).mono ?_
    rintro e w1 ⟨rfl, d, rfl⟩
    go_wp2_with fail
    go_ret
    exact ⟨by rw [hE.out]; rfl, below_drewN (Below.refl _ _) d⟩
  rw [h0] at HO
  have hO := cdO_0 h0
  have hp := prodL_pos hO.1.2
  have hgz : gsz os = prodL os := by rw [gsz_ok hO.1]; omega
  obtain ⟨m, hm⟩ : ∃ m : Nat, (prodL os).toNat = m := ⟨_, rfl⟩
  have hmp : prodL os = m := by omega
  have HG := hide (fun W (hW : Sl W w.heap.size A n c os) => by
    have h9 := groupSize_any W _ A n c os hW hn
    rw [hgz, hmp] at h9
    exact h9)
  have hm1 : 1 ≤ m := by omega
  have hm8 : m ≤ 8 := by omega
  have hE0 : ∀ b : Bool, inB M 1 1000 = true → prB m M f = b → cobK os M f = (if b = true then 0 else 2) := fun b h1 h2 => by unfold cobK; rw [if_pos h0, if_pos h1, hm, h2]
  have hE1 : inB M 1 1000 = false → cobK os M f = 2 := fun h1 => by unfold cobK; rw [if_pos h0, h1]; rfl
  have HE0 := hide hE0
  have HE1 := hide hE1
  clear h0 hO hp hgz hm hmp hE0 hE1
  by_cases hb : 1 ≤ M ∧ M ≤ 1000
  rotate_left
  · have hi := inB_f hb
    have hE := hide (HE1.out hi)
    clear hb
    go_enter Try.func95, Try.ntmps95
    go_wp2_with fail
    refine (HO.out _ h).mono ?_
    rintro e w1 ⟨rfl, d, rfl⟩
    go_wp2_with fail
    refine (isModulus_v false _ M hi).mono ?_
    rintro e w1 ⟨rfl, d2, rfl⟩
    go_wp2_with fail
    go_ret
    exact ⟨by rw [hE.out]; rfl, below_drewN (Below.refl _ _) _⟩
  have hi := inB_t hb.1 hb.2
  have HP := hide (fun W (hW : Below w.heap.size w W) => isPairing_any W D k e m M f ((hf.below hW).more hW.size) hk hr hb.1 hb.2 hm1 (by omega))
  have hwm : IntKind.i64.wrap (m : Int) = m := wr64 _ ⟨by omega, by omega⟩
  cases hpb : prB m M f
  all_goals
    have hE := hide (HE0.out _ hi hpb)
    have HPB := hide hpb
    rw [hpb] at HP
    clear hpb
    go_enter Try.func95, Try.ntmps95
    go_wp2_with fail
    refine (HO.out _ h).mono ?_
    rintro e w1 ⟨rfl, d, rfl⟩
    go_wp2_with fail
    refine (isModulus_v true _ M hi).mono ?_
    rintro e w1 ⟨rfl, d2, rfl⟩
    go_wp2_with fail
    refine (HG.out _ (h.drewN _)).mono ?_
    rintro e w1 ⟨rfl, d3, rfl⟩
    go_wp2_with fail
    refine (HP.out _ (below_drewN (Below.refl _ _) _)).mono ?_
    rintro e w1 ⟨rfl, hbb⟩
    go_wp2_with fail
    go_ret
    exact ⟨by rw [hE.out]; rfl, (below_drewN (Below.refl w.heap.size w) _).trans hbb⟩
end Go.Proofs.Ythjlpgaoemdmkaa
