
/- The walks of l03Cube, l03Dual. -/
import Derived.Test.YtlhfjfpgoaiijaaRG
import Derived.Test.YtlhfjfpgoaiijaaGa
import Derived.WalkLawsBesides
namespace Go.Proofs.Ytlhfjfpgoaiijaa
open Go Go.RowKit
set_option linter.unusedSimpArgs false
set_option linter.unusedVariables false
set_option maxRecDepth 100000

theorem not_cb_row {t : Tb} {m : List (List Int)} {k : Nat} (h : t[k]? = some m) (hl : m.length ≠ t.length) : cbB t = false := cbB_f fun hc => hl (hc.row m (get_mem h)).1
theorem not_cb_col {t : Tb} {m : List (List Int)} {r : List Int} {k j : Nat} (h : t[k]? = some m) (h2 : m[j]? = some r) (hl : r.length ≠ t.length) : cbB t = false := cbB_f fun hc => hl ((hc.row m (get_mem h)).2 r (get_mem h2)).1
theorem not_cb_num {t : Tb} {m : List (List Int)} {r : List Int} {k j i : Nat} (h : t[k]? = some m) (h2 : m[j]? = some r) (hi : i < r.length) (hl : ¬ (0 ≤ gi r i ∧ gi r i ≤ 1000)) : cbB t = false := cbB_f fun hc => hl (((hc.row m (get_mem h)).2 r (get_mem h2)).2 _ (gi_mem hi))
/-- The first k rows fit. -/
def RowOk (n : Nat) (r : List Int) : Prop := r.length = n ∧ ∀ x ∈ r, 0 ≤ x ∧ x ≤ 1000
def MatOk (n : Nat) (m : List (List Int)) : Prop := m.length = n ∧ ∀ r ∈ m, RowOk n r
theorem rowOk_of {n : Nat} {r : List Int} (hl : r.length = n) (h : ∀ j, j < n → 0 ≤ gi r j ∧ gi r j ≤ 1000) : RowOk n r := by
  refine ⟨hl, fun x hx => ?_⟩
  obtain ⟨j, hj, rfl⟩ := List.getElem_of_mem hx
  have := h j (by omega)
  unfold gi at this
  rwa [List.getD_eq_getElem?_getD, List.getElem?_eq_getElem hj] at this
theorem all_get {α : Type} {p : α → Prop} {xs : List α} (h : ∀ (j : Nat) x, xs[j]? = some x → p x) : ∀ x ∈ xs, p x := by
  intro x hx
  obtain ⟨j, hj, rfl⟩ := List.getElem_of_mem hx
  exact h j _ (List.getElem?_eq_getElem hj)
theorem cb_of {t : Tb} (h1 : 1 ≤ t.length) (h2 : t.length ≤ 16) (h : ∀ (j : Nat) m, t[j]? = some m → MatOk t.length m) : IsCb t := ⟨h1, h2, all_get h⟩

set_option maxHeartbeats 2000000 in
theorem l03Cube_any (w : World) (B : Nat) (A : Option Addr) (n c : Nat) (t : Tb) (h : Sl3 w B A n c t) (hn : n ≤ 1048576) (hr : ∀ xs ∈ t, xs.length ≤ 1048576 ∧ ∀ ys ∈ xs, ys.length ≤ 1048576) :
    Calls Try.prog 71 #[.slice A n c] w (Qt w (.bool (cbB t))) := by
  obtain rfl := h.len
  by_cases hp : 1 ≤ t.length
  rotate_left
  · have hE := hide (cbB_f fun hc => hp hc.pos)
    have h1 : (t.length : Int) < 1 := by omega
    go_enter Try.func71, Try.ntmps71
    go_wp2_with fail
    go_ret
    exact Qt.mk' 0 rfl (bool_eq hE.out.symm)
  by_cases hq : t.length ≤ 16
  rotate_left
  · have hE := hide (cbB_f fun hc => hq hc.le)
    have h1 : ¬ (t.length : Int) < 1 := by omega
    have h2 : (16 : Int) < t.length := by omega
    go_enter Try.func71, Try.ntmps71
    go_wp2_with fail
    go_ret
    exact Qt.mk' 0 rfl (bool_eq hE.out.symm)
  have h1 : ¬ (t.length : Int) < 1 := by omega
  have h2 : ¬ (16 : Int) < t.length := by omega
  obtain ⟨b, off, rfl, hb⟩ := RdL.addr h (by omega)
  go_enter Try.func71, Try.ntmps71
  go_wp2_with fail
  go_loopw [4] (fun i wr => ∃ k : Nat, k ≤ t.length ∧ i = .int .i64 k ∧ Hid (∀ (j : Nat) m, j < k → t[j]? = some m → MatOk t.length m) ∧ ∃ m, w.drewN m = wr) (fun i _ => t.length - (intOf i).toNat)
  case atStart => exact ⟨0, by omega, rfl, hide fun j m hj => absurd hj (by omega), 0, rfl⟩
  case round =>
    obtain ⟨k, hk, rfl, HP, d, rfl⟩ := hrel
    by_cases hlt : k < t.length
    · obtain ⟨m, hm⟩ := get_at hlt
      obtain ⟨A1, n1, c1, e1, hs1⟩ := h.row hm
      obtain rfl := hs1.len
      have hrm := hr m (get_mem hm)
      have HM := hide hm
      by_cases hl : m.length = t.length
      rotate_left
      · have hE := hide (not_cb_row hm hl)
        have hl' : ((m.length : Int) != (t.length : Int)) = true := by simp; omega
        clear hm
        go_wp2_with fail
        go_ret
        exact Qt.mk' d rfl (bool_eq hE.out.symm)
      have hl' : ((m.length : Int) != (t.length : Int)) = false := by simp [hl]
      have HL := hide hl
      clear hm hl
      obtain ⟨b', off', rfl, hb'⟩ := RdL.addr hs1 (by have := HL.out; omega)
      go_wp2_with fail
      go_loopw [5] (fun i wr => ∃ z : Nat, z ≤ t.length ∧ i = .int .i64 z ∧ Hid (∀ (j : Nat) r, j < z → m[j]? = some r → RowOk t.length r) ∧ ∃ m, w.drewN m = wr) (fun i _ => t.length - (intOf i).toNat)
      case atStart => exact ⟨0, by omega, rfl, hide fun j m hj => absurd hj (by omega), d, rfl⟩
      case round =>
        obtain ⟨z, hz, rfl, HQ, d2, rfl⟩ := hrel
        by_cases hlz : z < t.length
        · obtain ⟨r, hrr⟩ := get_at (xs := m) (k := z) (by rw [HL.out]; exact hlz)
          obtain ⟨A2, n2, c2, e2, hs2⟩ := hs1.row hrr
          obtain rfl := hs2.len
          have hrx := hrm.2 r (get_mem hrr)
          have HR := hide hrr
          have izl : (z : Int) < (m.length : Int) := by have := HL.out; omega
          by_cases hl2 : r.length = t.length
          rotate_left
          · have hE := hide (not_cb_col HM.out hrr hl2)
            have hl' : ((r.length : Int) != (t.length : Int)) = true := by simp; omega
            clear hrr
            go_wp2_with fail
            go_ret
            exact Qt.mk' d2 rfl (bool_eq hE.out.symm)
          have hl2' : ((r.length : Int) != (t.length : Int)) = false := by simp [hl2]
          have HL2 := hide hl2
          clear hrr hl2
          obtain ⟨b2, off2, rfl, hb2⟩ := Sl.addr hs2 (by have := HL2.out; omega)
          go_wp2_with fail
          go_loopw [6] (fun i wr => ∃ y : Nat, y ≤ t.length ∧ i = .int .i64 y ∧ Hid (∀ j, j < y → 0 ≤ gi r j ∧ gi r j ≤ 1000) ∧ ∃ m, w.drewN m = wr) (fun i _ => t.length - (intOf i).toNat)
          case atStart => exact ⟨0, by omega, rfl, hide fun j hj => absurd hj (by omega), d2, rfl⟩
          case round =>
            obtain ⟨y, hy, rfl, HY, d3, rfl⟩ := hrel
            by_cases hly : y < t.length
            · have e3 := hs2.row (k := y) (by rw [HL2.out]; exact hly)
              have iyl : (y : Int) < (r.length : Int) := by have := HL2.out; omega
              obtain ⟨v, ev⟩ : ∃ v, gi r y = v := ⟨_, rfl⟩
              have EV := hide ev
              rw [ev] at e3
              clear ev
              by_cases hv : 0 ≤ v ∧ v ≤ 1000
              · go_wp2_with fail
                refine (l01In_t v 0 1000 _ hv.1 hv.2).mono ?_
                rintro e w' ⟨rfl, m, rfl⟩
                go_wp2_with fail
                go_roundw
                case rel => exact ⟨y + 1, by omega, by go_num, hide fun j hj => (by rcases Nat.lt_succ_iff_lt_or_eq.1 hj with h | rfl; exact HY.out j h; rw [EV.out]; exact hv), _, rfl⟩
                case measure => simp [intOf] <;> omega
              · have hE := hide (not_cb_num HM.out HR.out (i := y) (by rw [HL2.out]; exact hly) (by rw [EV.out]; exact hv))
                go_wp2_with fail
                refine (l01In_f v 0 1000 _ hv).mono ?_
                rintro e w' ⟨rfl, m, rfl⟩
                go_wp2_with fail
                go_ret
                exact Qt.mk' _ rfl (bool_eq hE.out.symm)
            · obtain rfl : y = t.length := by omega
              have hR := hide (rowOk_of HL2.out HY.out)
              go_wp2_with fail
              go_roundw
              case rel => exact ⟨z + 1, by omega, by go_num, hide fun j r' hj hr' => (by rcases Nat.lt_succ_iff_lt_or_eq.1 hj with h | rfl; exact HQ.out j r' h hr'; rw [HR.out] at hr'; injection hr' with hr'; rw [← hr']; exact hR.out), _, rfl⟩
              case measure => simp [intOf] <;> omega
        · obtain rfl : z = t.length := by omega
          have hR := hide (show MatOk t.length m from ⟨HL.out, all_get fun j r hj => HQ.out j r (by have := get_lt hj; have := HL.out; omega) hj⟩)
          go_wp2_with fail
          go_roundw
          case rel => exact ⟨k + 1, by omega, by go_num, hide fun j r' hj hr' => (by rcases Nat.lt_succ_iff_lt_or_eq.1 hj with h | rfl; exact HP.out j r' h hr'; rw [HM.out] at hr'; injection hr' with hr'; rw [← hr']; exact hR.out), _, rfl⟩
          case measure => simp [intOf] <;> omega
    · obtain rfl : k = t.length := by omega
      have hE := hide (cbB_t (cb_of hp hq fun j m hj => HP.out j m (get_lt hj) hj))
      go_wp2_with fail
      go_ret
      exact Qt.mk' _ rfl (bool_eq hE.out.symm)
end Go.Proofs.Ytlhfjfpgoaiijaa
