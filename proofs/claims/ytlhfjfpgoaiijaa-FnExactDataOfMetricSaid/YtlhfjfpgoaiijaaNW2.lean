
/- The walks of heldInt64SS, heldInt64SSS. -/
import Derived.Test.YtlhfjfpgoaiijaaNW1
namespace Go.Proofs.Ytlhfjfpgoaiijaa
open Go Go.RowKit
set_option linter.unusedSimpArgs false
set_option linter.unusedVariables false

theorem heldI_ge (xs : List Int) : ∀ q : Int, 0 ≤ q → -1 ≤ heldI q xs ∧ heldI q xs ≤ q + xs.length := by
  induction xs with
  | nil => intro q h; simp [heldI]; omega
  | cons x r ih =>
    intro q h
    unfold heldI
    split
    · have := ih (q + 1) (by omega); simp; omega
    · simp; omega
theorem heldL_ge {α : Type} {hf : Int → α → Int} {f : α → Nat} (h : ∀ q x, 0 ≤ q → -1 ≤ hf q x ∧ hf q x ≤ q + f x) (xs : List α) : ∀ q : Int, 0 ≤ q → -1 ≤ heldL hf q xs ∧ heldL hf q xs ≤ q + ((xs.map f).sum : Nat) := by
  induction xs with
  | nil => intro q h; simp [heldL]; omega
  | cons x r ih =>
    intro q hq
    simp only [heldL, List.map_cons, List.sum_cons]
    split
    · omega
    · have h1 := h q x hq
      have := ih (hf q x) (by omega); omega
theorem held2_ge (xs : List (List Int)) (q : Int) (h : 0 ≤ q) : -1 ≤ held2 q xs ∧ held2 q xs ≤ q + sum2 xs := heldL_ge (fun q x h => heldI_ge x q h) xs q h
theorem held3_ge (xs : List (List (List Int))) (q : Int) (h : 0 ≤ q) : -1 ≤ held3 q xs ∧ held3 q xs ≤ q + sum3 xs := heldL_ge (fun q x h => held2_ge x q h) xs q h
set_option maxHeartbeats 1000000 in
theorem heldInt64SS_any (w : World) (B : Nat) (A : Option Addr) (n c : Nat) (xs : List (List Int)) (q : Int) (h : Sl2 w B A n c xs) (hn : n ≤ 1048576) (hr : ∀ x ∈ xs, x.length ≤ 1048576) (hsum : (xs.map List.length).sum ≤ 1048576) (hq0 : 0 ≤ q) (hq1 : q ≤ 500000000) :
    Calls Try.prog 27 #[.slice A n c, .int .i64 q] w (Qt w (.int .i64 (heldL heldI q xs))) := by
  obtain rfl := h.len
  go_enter Try.func27, Try.ntmps27
  go_wp2
  go_loopw [1, 5] (fun q' i wr => ∃ (k : Nat) (z : Int), k ≤ xs.length ∧ i = .int .i64 k ∧ q' = .int .i64 z ∧ 0 ≤ z ∧ z ≤ q + psum List.length xs k ∧ Hid (heldL heldI q xs = heldL heldI z (xs.drop k)) ∧ ∃ m, w.drewN m = wr) (fun _ i _ => xs.length - (intOf i).toNat)
  case atStart => exact ⟨0, q, by omega, rfl, rfl, hq0, by rw [psum_zero]; omega, hide (by simp), 0, rfl⟩
  case round =>
    obtain ⟨k, z, hk, rfl, rfl, hz0, hz1, HZ, m, rfl⟩ := hrel
    by_cases hlt : k < xs.length
    · obtain ⟨x, hx⟩ := get_at hlt
      obtain ⟨b, off, rfl, hbB⟩ := RdL.addr h (by omega)
      obtain ⟨A', n', c', c1, hs⟩ := h.row hx
      have hln := hs.len
      subst hln
      have hm := get_mem hx
      have hp1 := psum_succ (f := List.length) hx
      have hpl := psum_le List.length xs (k + 1)
      have hge := heldI_ge x z hz0
      have hd := heldL_drop (hf := heldI) (q := z) hx
      have HD := hide hd
      have hbd : z ≤ 1000000000 := by omega
      have hrx := hr x hm
      have hxs : List.length x ≤ 1048576 := by omega
      have hzq : z ≤ 500000000 + 1048576 := by omega
      clear hx hd
      have hcall : ∀ m', Calls Try.prog 28 #[.slice A' x.length c', .int .i64 z] (w.drewN m') (Qt (w.drewN m') (.int .i64 (heldI z x))) := fun m' => heldInt64S_any (w.drewN m') B A' x.length c' z x (hs.drewN m') hrx hz0 hbd
      obtain ⟨r, er⟩ : ∃ r, heldI z x = r := ⟨_, rfl⟩
      rw [er] at hcall hge
      have ER := hide er
      clear er
      have hnew : r ≤ q + psum List.length xs (k + 1) := by omega
      clear hp1 hpl
      by_cases hr0 : r < 0
      · have hE := hide (show heldL heldI q xs = -1 by rw [HZ.out, HD.out, ER.out, if_pos hr0])
        go_wp2_with fail
        refine (hcall _).mono ?_
        rintro e w' ⟨rfl, m', rfl⟩
        go_wp2
        go_ret
        exact Qt.mk' (m + m') rfl (int_eq hE.out.symm)
      · have hE := hide (show heldL heldI q xs = heldL heldI r (xs.drop (k + 1)) by rw [HZ.out, HD.out, ER.out, if_neg hr0])
        go_wp2_with fail
        refine (hcall _).mono ?_
        rintro e w' ⟨rfl, m', rfl⟩
        go_wp2
        go_roundw
        case rel => exact ⟨k + 1, r, by omega, by go_num, rfl, by omega, hnew, hE, m + m', rfl⟩
        case measure => simp [intOf] <;> omega
    · obtain rfl : k = xs.length := by omega
      go_wp2
      go_ret
      exact Qt.mk' m rfl (int_eq (by rw [HZ.out, List.drop_length]; rfl))
end Go.Proofs.Ytlhfjfpgoaiijaa
