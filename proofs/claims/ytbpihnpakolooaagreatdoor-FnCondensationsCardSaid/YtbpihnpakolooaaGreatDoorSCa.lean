
/- Helpers of the law FnCondensations: likeRows5, sum. Elements of a metric: contracts of AddElements and ElementValue of the program. (A part of KT6.) -/
import Derived.Test.YtbpihnpakolooaaGreatDoorSla
import Derived.Test.YtbpihnpakolooaaGreatDoorANa
import Derived.Test.YtbpihnpakolooaaGreatDoorQNb
import Derived.Test.YtbpihnpakolooaaGreatDoorCma
import Derived.WalkLawsBesides
namespace Go.Proofs.YtbpihnpakolooaaGreatDoor
open Go Go.RowKit Grp
set_option linter.unusedSimpArgs false
set_option linter.unusedVariables false
set_option maxHeartbeats 1000000 in
theorem likeRows_any (w : World) (B B' : Nat) (A A' : Option Addr) (n n' c c' : Nat) (xs ys : List (List Int)) (h : Sl2 w B A n c xs) (h' : Sl2 w B' A' n' c' ys) (hn : n ≤ 1048576) (hr : ∀ x ∈ xs, x.length ≤ 1048576) :
  Calls Tryz.prog 13 #[.slice A n c, .slice A' n' c'] w (Qt w (.bool (xs == ys))) := by
 obtain rfl := h.len
 obtain ⟨n2, hn2⟩ : ∃ n2, n' = n2 := ⟨_, rfl⟩
 by_cases hne : xs.length = n'
 ·subst hne
  clear hn2
  go_enter Tryz.func13, Tryz.ntmps13
  go_wp2
  go_loopw [5] (fun i wr => ∃ k : Nat, k ≤ xs.length ∧ i = .int .i64 k ∧ Hid (xs.take k = ys.take k) ∧ Dr w wr) (fun i _ => xs.length - (intOf i).toNat)
  case atStart => exact ⟨0, by omega, rfl, hide rfl, Dr.refl _⟩
  case round =>
   obtain ⟨k, hk, rfl, HP, hDr⟩ := hrel
   by_cases hlt : k < xs.length
   ·obtain ⟨x, hx⟩ := get_at hlt
    obtain ⟨y, hy⟩ := get_at (xs := ys) (k := k) (by rw [h'.len]; exact hlt)
    obtain ⟨b, off, rfl, hbB⟩ := RdL.addr h (by omega)
    obtain ⟨b', off', rfl, hbB'⟩ := RdL.addr h' (by omega)
    obtain ⟨A1, n1, k1, c1, hs⟩ := h.row hx
    obtain ⟨A2, n2', k2, c2, hs'⟩ := h'.row hy
    have HX := hide hx
    have HY := hide hy
    have hrx := hr x (get_mem hx)
    clear hx hy
    obtain ⟨dk, rfl⟩ := hDr
    have hln := hs.len
    subst hln
    have hcall : ∀ W, Dr w W → Calls Tryz.prog 12 #[.slice A1 x.length k1, .slice A2 n2' k2] W (Qt W (.bool (x == y))) := fun W hW => likeInts_any _ B B' _ _ _ _ _ _ _ _ (hs.keep fun _ _ => by obtain ⟨_, rfl⟩ := hW; rfl) (hs'.keep fun _ _ => by obtain ⟨_, rfl⟩ := hW; rfl) hrx
    obtain ⟨r, er⟩ : ∃ r, (x == y) = r := ⟨_, rfl⟩
    rw [er] at hcall
    cases r with
    | true =>
     have HE := hide (eq_of_beq er)
     clear er
     go_wp2_with fail
     refine wp_region_dr [0, 1, 2, 3, 4, 5, 6, 7, 8, 9] 10 (w.drewN dk) (by kernel_rfl) (by kernel_rfl) (by kernel_rfl) (fun _ _ _ _ _ h => h) (Dr.refl _) (fun wd hDr => ?_)
     repeat (first | (apply ord_tk rfl (by rfl) (by rfl) (by rfl); (focus (rintro w ⟨dm, rfl⟩; go_simp; (try with_reducible rfl))); (try simp only [Act.put, List.setIfInBounds_toArray, List.set_cons_zero, List.set_cons_succ])) | (apply ord_skip rfl (by rfl) (by rfl) (fun _ => hDr); (try simp only [Act.put, List.setIfInBounds_toArray, List.set_cons_zero, List.set_cons_succ])))
     refine ord_do rfl (by rfl) (by rfl) (fun K hK => ?_)
     go_simp
     refine (hcall _ (Dr.trans ⟨dk, rfl⟩ hDr)).mono ?_
     rintro e wd' ⟨rfl, dm, hwd⟩
     replace hDr := hDr.step hwd
     clear hwd
     refine hK.out _ _ (fun _ => hDr) ?_
     (try simp only [Act.put, List.setIfInBounds_toArray, List.set_cons_zero, List.set_cons_succ])
     clear hK K
     repeat (first | (apply ord_tk rfl (by rfl) (by rfl) (by rfl); (focus (rintro w ⟨dm, rfl⟩; go_simp; (try with_reducible rfl))); (try simp only [Act.put, List.setIfInBounds_toArray, List.set_cons_zero, List.set_cons_succ])) | (apply ord_skip rfl (by rfl) (by rfl) (fun _ => hDr); (try simp only [Act.put, List.setIfInBounds_toArray, List.set_cons_zero, List.set_cons_succ])))
     refine ord_nil ?_
     have hD2 := Dr.trans ⟨dk, rfl⟩ hDr
     clear hDr
     go_wp2_with fail
     go_roundw
     case rel => exact ⟨k + 1, by omega, by go_num, hide (take_step' HX.out HY.out HP.out HE.out), hD2⟩
     case measure => simp [intOf] <;> omega
    | false =>
     have HE := hide (show (xs == ys) = false from ne_of_get HX.out HY.out (by intro e; subst e; simp at er))
     clear er
     go_wp2_with fail
     refine wp_region_dr [0, 1, 2, 3, 4, 5, 6, 7, 8, 9] 10 (w.drewN dk) (by kernel_rfl) (by kernel_rfl) (by kernel_rfl) (fun _ _ _ _ _ h => h) (Dr.refl _) (fun wd hDr => ?_)
     repeat (first | (apply ord_tk rfl (by rfl) (by rfl) (by rfl); (focus (rintro w ⟨dm, rfl⟩; go_simp; (try with_reducible rfl))); (try simp only [Act.put, List.setIfInBounds_toArray, List.set_cons_zero, List.set_cons_succ])) | (apply ord_skip rfl (by rfl) (by rfl) (fun _ => hDr); (try simp only [Act.put, List.setIfInBounds_toArray, List.set_cons_zero, List.set_cons_succ])))
     refine ord_do rfl (by rfl) (by rfl) (fun K hK => ?_)
     go_simp
     refine (hcall _ (Dr.trans ⟨dk, rfl⟩ hDr)).mono ?_
     rintro e wd' ⟨rfl, dm, hwd⟩
     replace hDr := hDr.step hwd
     clear hwd
     refine hK.out _ _ (fun _ => hDr) ?_
     (try simp only [Act.put, List.setIfInBounds_toArray, List.set_cons_zero, List.set_cons_succ])
     clear hK K
     repeat (first | (apply ord_tk rfl (by rfl) (by rfl) (by rfl); (focus (rintro w ⟨dm, rfl⟩; go_simp; (try with_reducible rfl))); (try simp only [Act.put, List.setIfInBounds_toArray, List.set_cons_zero, List.set_cons_succ])) | (apply ord_skip rfl (by rfl) (by rfl) (fun _ => hDr); (try simp only [Act.put, List.setIfInBounds_toArray, List.set_cons_zero, List.set_cons_succ])))
     refine ord_nil ?_
     have hD2 := Dr.trans ⟨dk, rfl⟩ hDr
     clear hDr
     go_wp2_with fail
     go_ret
     obtain ⟨dk, rfl⟩ := hD2
     exact Qt.mk' dk rfl (bool_eq HE.out.symm)
   ·go_wp2
    go_ret
    have hT := eq_of_take HP.out (by omega) (by rw [h'.len]; omega)
    obtain ⟨dk, rfl⟩ := hDr
    exact Qt.mk' dk rfl (bool_eq hT.symm)
 ·have hE := hide (show (xs == ys) = false by rw [beq_eq_false_iff_ne]; rintro rfl; exact hne h'.len)
  go_enter Tryz.func13, Tryz.ntmps13
  go_wp2
  go_ret
  exact Qt.mk' 0 rfl (bool_eq hE.out.symm)
theorem sum_take {xs : List Int} {k : Nat} (h : k < xs.length) : (xs.take (k + 1)).sum = (xs.take k).sum + gi xs k := by
 rw [take_gi h, List.sum_append]; simp
theorem sum_bd {xs : List Int} (h : ∀ x ∈ xs, 0 ≤ x ∧ x ≤ 1000000) : 0 ≤ xs.sum ∧ xs.sum ≤ 1000000 * (xs.length : Int) := by
 induction xs with
 | nil => simp
 | cons x r ih =>
  have h1 := h x (by simp)
  have h2 := ih fun y hy => h y (by simp [hy])
  simp only [List.sum_cons, List.length_cons]
  omega
theorem perm_sum {xs ys : List Int} (h : xs.Perm ys) : xs.sum = ys.sum := by
 induction h with
 | nil => rfl
 | cons x _ ih => simp [ih]
 | swap x y l => simp only [List.sum_cons]; omega
 | trans _ _ h1 h2 => exact h1.trans h2
theorem sum_any (w : World) (B : Nat) (A : Option Addr) (n c : Nat) (xs : List Int) (h : Sl w B A n c xs) (hn : n ≤ 1048576) (hx : ∀ x ∈ xs, 0 ≤ x ∧ x ≤ 1000000) :
  Calls Tryz.prog 19 #[.slice A n c] w (Qt w (.int .i64 xs.sum)) := by
 obtain rfl := h.len
 have HB := hide (fun k => sum_bd (xs := xs.take k) fun x hm => hx x (List.mem_of_mem_take hm))
 clear hx
 go_enter Tryz.func19, Tryz.ntmps19
 go_wp2
 go_loopw [3, 4] (fun s i wr => ∃ k : Nat, k ≤ xs.length ∧ i = .int .i64 k ∧ s = .int .i64 (xs.take k).sum ∧ ∃ m, w.drewN m = wr) (fun _ i _ => xs.length - (intOf i).toNat)
 case atStart => exact ⟨0, by omega, rfl, rfl, 0, rfl⟩
 case round =>
  obtain ⟨k, hk, rfl, rfl, m, rfl⟩ := hrel
  by_cases hlt : k < xs.length
  ·obtain ⟨b, off, rfl, hb, hc⟩ := h.at_ (by omega)
   have c1 := hc k hlt
   have hs := sum_take hlt
   have hb1 := HB.out (k + 1)
   have hlk : (xs.take (k + 1)).length ≤ 1048576 := by rw [List.length_take]; omega
   clear hc
   obtain ⟨y, hy⟩ : ∃ y, gi xs k = y := ⟨_, rfl⟩
   obtain ⟨s, hse⟩ : ∃ s, (xs.take k).sum = s := ⟨_, rfl⟩
   rw [hy] at c1 hs
   rw [hse] at hs
   rw [hs] at hb1
   have hS := hide hs
   have u1 : IntKind.i64.wrap (s + y) = s + y := wr64 _ ⟨by omega, by omega⟩
   rw [hse]
   clear hs hy hse hb1 hlk
   go_wp2
   go_roundw
   case rel => exact ⟨k + 1, by omega, by go_num, by rw [hS.out], _, rfl⟩
   case measure => simp [intOf]; omega
  ·obtain rfl : k = xs.length := by omega
   rw [List.take_length]
   go_wp2
   go_ret
   exact Qt.d1 rfl
section
variable {os vs : List Int} {D : Int} (hM : IsM os D vs)
include hM
theorem codeE_ok {xs : List Int} (h : ∀ x ∈ xs, 0 ≤ x ∧ x < prodL os) : codeE os D vs xs = 0 := by
 unfold codeE
 rw [if_pos (isM_t hM), if_pos]
 unfold allIn
 refine List.all_eq_true.2 fun x hx => ?_
 have := h x hx
 unfold inB
 exact decide_eq_true ⟨by omega, by omega⟩
theorem elt_ok {x : Int} (x0 : 0 ≤ x) (x1 : x < prodL os) : i64ok x := by have := hM.ok.g.p16; exact ⟨by omega, by omega⟩
variable (W : World) (A : Option Addr) (n c : Nat) (A' : Option Addr) (n' c' : Nat) (h : Sl W W.heap.size A n c os) (h' : Sl W W.heap.size A' n' c' vs) (hn : n ≤ 1048576) (hn' : n' ≤ 1048576)
include h h' hn hn'
theorem add_v {x y : Int} (x0 : 0 ≤ x) (x1 : x < prodL os) (y0 : 0 ≤ y) (y1 : y < prodL os) : Calls Tryz.prog 20 #[.agg #[.slice A n c, .int .i64 D, .slice A' n' c'], .int .i64 x, .int .i64 y] W (Re2 W (Ar os x y) 0) := by
 have := impl_Add_any W A n c os D A' n' c' vs x y (elt_ok hM x0 x1) (elt_ok hM y0 y1) h h' hn hn'
 rwa [codeE_ok hM (xs := [x, y]) (fun z hz => by simp at hz; rcases hz with rfl | rfl <;> exact ⟨by omega, by omega⟩), if_pos rfl] at this
theorem val_v {x : Int} (x0 : 0 ≤ x) (x1 : x < prodL os) : Calls Tryz.prog 21 #[.agg #[.slice A n c, .int .i64 D, .slice A' n' c'], .int .i64 x] W (Re2 W (rp D.toNat (Vl vs x) : Int) 0) := by
 have := impl_Val_any W A n c os D A' n' c' vs x (elt_ok hM x0 x1) h h' hn hn'
 rwa [codeE_ok hM (xs := [x]) (fun z hz => by simp at hz; subst hz; exact ⟨by omega, by omega⟩), if_pos rfl] at this
end
end Go.Proofs.YtbpihnpakolooaaGreatDoor
