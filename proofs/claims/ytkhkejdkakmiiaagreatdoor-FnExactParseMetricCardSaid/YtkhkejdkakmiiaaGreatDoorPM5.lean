
/- The reference's l01Value, main road (a draft: does not build yet). -/
import Derived.Test.YtkhkejdkakmiiaaGreatDoorPM4
namespace Go.Proofs.YtkhkejdkakmiiaaGreatDoor
open Go Go.RowKit Go.Shelf
set_option linter.unusedSimpArgs false
set_option linter.unusedVariables false
set_option maxRecDepth 100000
theorem lv_no {s : ByteArray} {k : Nat} (hk : k < s.size) (h : isDg (by_ s k) = false) : lv s = -1 := by
  unfold lv lvB
  have : s.data.toList.all isDg = false := by
    refine Bool.eq_false_iff.2 fun ha => ?_
    have := List.all_eq_true.1 ha _ (List.mem_of_getElem? (by_some s hk))
    rw [h] at this; cases this
  rw [this, Bool.and_false]; rfl
theorem lv_yes {s : ByteArray} (h1 : 1 ≤ s.size) (h9 : s.size ≤ 9) (hz : ¬ (1 < s.size ∧ by_ s 0 = 48)) (hall : ∀ j, j < s.size → isDg (by_ s j) = true) : lv s = (valD 0 s.data.toList : Nat) := by
  have hsz : s.size = s.data.toList.length := Lib.size_eq s
  have hA : s.data.toList.all isDg = true := by
    refine List.all_eq_true.2 fun x hx => ?_
    obtain ⟨j, hj⟩ := List.mem_iff_getElem?.1 hx
    have hj2 := (List.getElem?_eq_some_iff.1 hj).1
    rw [by_some s (by omega)] at hj
    cases hj
    exact hall j (by omega)
  have hE : s.data.toList.isEmpty = false := by
    rw [List.isEmpty_eq_false_iff]
    intro e
    have h0 : s.data.toList.length = 0 := by rw [e]; rfl
    omega
  have hH : (decide (1 < s.data.toList.length) && s.data.toList.head? == some 48) = false := by
    refine Bool.eq_false_iff.2 fun ha => hz ?_
    rw [Bool.and_eq_true, decide_eq_true_eq] at ha
    refine ⟨by omega, ?_⟩
    have h2 := by_some s (k := 0) (by omega)
    rw [← List.head?_eq_getElem?] at h2
    rw [h2] at ha
    simpa using ha.2
  unfold lv lvB
  rw [hA, hE, hH, decide_eq_true (show s.data.toList.length ≤ 9 by omega)]
  rfl
set_option maxHeartbeats 4000000 in
theorem l01Value_main (w : World) (s : ByteArray) (n : Nat) (hn : s.size = n) (h1 : n = 1) : Calls Tryz.prog 11 #[.string s] w (Re w (.int .i64 (lv s))) := by
  subst h1
  go_enter Tryz.func11, Tryz.ntmps11
  go_wp2_with fail
  obtain ⟨n, hnn⟩ : ∃ n, n = 1 := ⟨_, rfl⟩
  rw [← hnn] at hn
  have HZ := hide (show ¬ (1 < s.size ∧ by_ s 0 = 48) by omega)
  go_loopw [3, 4] (fun nv i wr => ∃ k : Nat, k ≤ n ∧ i = .int .i64 k ∧ nv = .int .i64 (valD 0 (s.data.toList.take k) : Nat) ∧ Hid (∀ j, j < k → isDg (by_ s j) = true) ∧ wr = w) (fun _ i _ => n - (intOf i).toNat)
  case atStart => exact ⟨0, by omega, rfl, rfl, hide fun j hj => absurd hj (by omega), rfl⟩
  case round =>
    obtain ⟨k, hk, rfl, rfl, HP, rfl⟩ := hrel
    by_cases hlk : k < n
    · have hks : k < s.size := by omega
      have hx1 : ∀ h : k < s.size, (s[k]'h).toNat = (by_ s k).toNat := fun h => by rw [by_get s h]
      have htk := valD_take (by_some s hks)
      have hlt := valD_lt (s.data.toList.take k) 0 0 (by omega) (fun x hx => by
        have h2 := List.mem_iff_getElem?.1 hx
        obtain ⟨j, hj⟩ := h2
        have hj2 : j < k := by
          rcases Nat.lt_or_ge j k with h | h
          · exact h
          · rw [List.getElem?_eq_none (by rw [List.length_take]; omega)] at hj; cases hj
        rw [List.getElem?_take_of_lt hj2, by_some s (by omega)] at hj
        cases hj
        exact HP.out j hj2)
      obtain ⟨c, ec⟩ : ∃ c, (by_ s k).toNat = c := ⟨_, rfl⟩
      obtain ⟨a, ea⟩ : ∃ a, valD 0 (s.data.toList.take k) = a := ⟨_, rfl⟩
      simp only [ec] at hx1
      rw [ea] at hlt htk ⊢
      have ha : a < 1000000000 := Nat.lt_of_lt_of_le hlt (Nat.le_trans (Nat.pow_le_pow_right (by omega) (show 0 + (s.data.toList.take k).length ≤ 9 by rw [List.length_take]; omega)) (by omega))
      by_cases hd : 48 ≤ c ∧ c ≤ 57
      · have hd1 := hd.1
        have hd2 := hd.2
        have m1 : IntKind.u8.wrap ((c : Int) - 48) = c - 48 := by rw [IntKind.wrap_u8]; omega
        have m2 : IntKind.i64.wrap ((c : Int) - 48) = c - 48 := wr64 _ ⟨by omega, by omega⟩
        have m3 : IntKind.i64.wrap ((a : Int) * 10) = a * 10 := wr64 _ ⟨by omega, by omega⟩
        have m4 : IntKind.i64.wrap ((a : Int) * 10 + (c - 48)) = a * 10 + (c - 48) := wr64 _ ⟨by omega, by omega⟩
        have HPn := hide (show ∀ j, j < k + 1 → isDg (by_ s j) = true from fun j hj => by
          rcases Nat.lt_succ_iff_lt_or_eq.1 hj with h | rfl
          · exact HP.out j h
          · unfold isDg; rw [ec, decide_eq_true_eq]; exact hd)
        have HT := hide (show ((valD 0 (s.data.toList.take (k + 1)) : Nat) : Int) = (a : Int) * 10 + (c - 48) by rw [htk, ec]; omega)
        clear htk ec ea hlt hd
        go_wp2_with fail
        go_roundw
        case rel => exact ⟨k + 1, by omega, by go_num, by rw [HT.out], HPn, trivial⟩
        case measure => simp [intOf] <;> omega
      · have hE := hide (lv_no hks (by unfold isDg; rw [ec]; simp; omega))
        have hd' : c < 48 ∨ 57 < c := by omega
        rcases hd' with hd' | hd'
        · have q1 : (c : Int) < 48 := by omega
          clear htk ec ea hlt hd
          go_wp2_with fail
          go_ret
          exact ⟨by rw [hE.out]; rfl, Below.refl _ _⟩
        · have q1 : ¬ (c : Int) < 48 := by omega
          have q2 : (57 : Int) < c := by omega
          clear htk ec ea hlt hd
          go_wp2_with fail
          go_ret
          exact ⟨by rw [hE.out]; rfl, Below.refl _ _⟩
    · obtain rfl : k = n := by omega
      have hE := hide (lv_yes (s := s) (by omega) (by omega) HZ.out (fun j hj => HP.out j (by omega)))
      rw [List.take_of_length_le (by rw [← Lib.size_eq]; omega)]
      go_wp2_with fail
      go_ret
      exact ⟨by rw [hE.out]; rfl, Below.refl _ _⟩
theorem lv_zero {s : ByteArray} (h1 : 1 < s.size) (hz : by_ s 0 = 48) : lv s = -1 := by
  have hsz : s.size = s.data.toList.length := Lib.size_eq s
  have h2 := by_some s (k := 0) (by omega)
  rw [← List.head?_eq_getElem?, hz] at h2
  unfold lv lvB
  rw [h2, decide_eq_true (show 1 < s.data.toList.length by omega)]
  simp
set_option maxHeartbeats 4000000 in
theorem l01Value_many (w : World) (s : ByteArray) (n : Nat) (hn : s.size = n) (h1 : 1 < n) (h9 : n ≤ 9) : Calls Tryz.prog 11 #[.string s] w (Re w (.int .i64 (lv s))) := by
  have hx0 : ∀ h : 0 < s.size, (s[0]'h).toNat = (by_ s 0).toNat := fun h => by rw [by_get s h]
  have hq : (0 : Nat) < s.size := by omega
  have h0 : ¬ n = 0 := by omega
  have h9' : ¬ (9 : Int) < n := by omega
  have h1' : (1 : Int) < n := by omega
  by_cases hz : by_ s 0 = 48
  · have hE := hide (lv_zero (by omega) hz)
    have e48 : (by_ s 0).toNat = 48 := by rw [hz]; rfl
    simp only [e48] at hx0
    go_enter Tryz.func11, Tryz.ntmps11
    go_wp2_with fail
    go_ret
    exact ⟨by rw [hE.out]; rfl, Below.refl _ _⟩
  · have hb : ¬ (by_ s 0).toNat = 48 := fun h => hz (UInt8.toNat_inj.1 h)
    have HZ := hide (show ¬ (1 < s.size ∧ by_ s 0 = 48) from fun h => hz h.2)
    obtain ⟨x, ex⟩ : ∃ x, (by_ s 0).toNat = x := ⟨_, rfl⟩
    simp only [ex] at hx0
    rw [ex] at hb
    have hb' : ((x : Int) == 48) = false := by rw [beq_eq_false_iff_ne]; omega
    clear hz ex hb
    go_enter Tryz.func11, Tryz.ntmps11
    go_wp2_with fail
    clear hx0 hb'
    go_loopw [3, 4] (fun nv i wr => ∃ k : Nat, k ≤ n ∧ i = .int .i64 k ∧ nv = .int .i64 (valD 0 (s.data.toList.take k) : Nat) ∧ Hid (∀ j, j < k → isDg (by_ s j) = true) ∧ wr = w) (fun _ i _ => n - (intOf i).toNat)
    case atStart => exact ⟨0, by omega, rfl, rfl, hide fun j hj => absurd hj (by omega), rfl⟩
    case round =>
      obtain ⟨k, hk, rfl, rfl, HP, rfl⟩ := hrel
      by_cases hlk : k < n
      · have hks : k < s.size := by omega
        have hx1 : ∀ h : k < s.size, (s[k]'h).toNat = (by_ s k).toNat := fun h => by rw [by_get s h]
        have htk := valD_take (by_some s hks)
        have hlt := valD_lt (s.data.toList.take k) 0 0 (by omega) (fun x hx => by
          have h2 := List.mem_iff_getElem?.1 hx
          obtain ⟨j, hj⟩ := h2
          have hj2 : j < k := by
            rcases Nat.lt_or_ge j k with h | h
            · exact h
            · rw [List.getElem?_eq_none (by rw [List.length_take]; omega)] at hj; cases hj
          rw [List.getElem?_take_of_lt hj2, by_some s (by omega)] at hj
          cases hj
          exact HP.out j hj2)
        obtain ⟨c, ec⟩ : ∃ c, (by_ s k).toNat = c := ⟨_, rfl⟩
        obtain ⟨a, ea⟩ : ∃ a, valD 0 (s.data.toList.take k) = a := ⟨_, rfl⟩
        simp only [ec] at hx1
        rw [ea] at hlt htk ⊢
        have ha : a < 1000000000 := Nat.lt_of_lt_of_le hlt (Nat.le_trans (Nat.pow_le_pow_right (by omega) (show 0 + (s.data.toList.take k).length ≤ 9 by rw [List.length_take]; omega)) (by omega))
        by_cases hd : 48 ≤ c ∧ c ≤ 57
        · have hd1 := hd.1
          have hd2 := hd.2
          have m1 : IntKind.u8.wrap ((c : Int) - 48) = c - 48 := by rw [IntKind.wrap_u8]; omega
          have m2 : IntKind.i64.wrap ((c : Int) - 48) = c - 48 := wr64 _ ⟨by omega, by omega⟩
          have m3 : IntKind.i64.wrap ((a : Int) * 10) = a * 10 := wr64 _ ⟨by omega, by omega⟩
          have m4 : IntKind.i64.wrap ((a : Int) * 10 + (c - 48)) = a * 10 + (c - 48) := wr64 _ ⟨by omega, by omega⟩
          have HPn := hide (show ∀ j, j < k + 1 → isDg (by_ s j) = true from fun j hj => by
            rcases Nat.lt_succ_iff_lt_or_eq.1 hj with h | rfl
            · exact HP.out j h
            · unfold isDg; rw [ec, decide_eq_true_eq]; exact hd)
          have HT := hide (show ((valD 0 (s.data.toList.take (k + 1)) : Nat) : Int) = (a : Int) * 10 + (c - 48) by rw [htk, ec]; omega)
          clear htk ec ea hlt hd
          go_wp2_with fail
          go_roundw
          case rel => exact ⟨k + 1, by omega, by go_num, by rw [HT.out], HPn, trivial⟩
          case measure => simp [intOf] <;> omega
        · have hE := hide (lv_no hks (by unfold isDg; rw [ec]; simp; omega))
          have hd' : c < 48 ∨ 57 < c := by omega
          rcases hd' with hd' | hd'
          · have q1 : (c : Int) < 48 := by omega
            clear htk ec ea hlt hd
            go_wp2_with fail
            go_ret
            exact ⟨by rw [hE.out]; rfl, Below.refl _ _⟩
          · have q1 : ¬ (c : Int) < 48 := by omega
            have q2 : (57 : Int) < c := by omega
            clear htk ec ea hlt hd
            go_wp2_with fail
            go_ret
            exact ⟨by rw [hE.out]; rfl, Below.refl _ _⟩
      · obtain rfl : k = n := by omega
        have hE := hide (lv_yes (s := s) (by omega) (by omega) HZ.out (fun j hj => HP.out j (by omega)))
        rw [List.take_of_length_le (by rw [← Lib.size_eq]; omega)]
        go_wp2_with fail
        go_ret
        exact ⟨by rw [hE.out]; rfl, Below.refl _ _⟩
theorem l01Value_any (w : World) (s : ByteArray) (hs : s.size ≤ 1048576) : Calls Tryz.prog 11 #[.string s] w (Re w (.int .i64 (lv s))) := by
  by_cases h : s.size = 0 ∨ 9 < s.size
  · exact l01Value_early w s h hs
  · by_cases h1 : s.size = 1
    · exact l01Value_main w s s.size rfl h1
    · exact l01Value_many w s s.size rfl (by omega) (by omega)
end Go.Proofs.YtkhkejdkakmiiaaGreatDoor
