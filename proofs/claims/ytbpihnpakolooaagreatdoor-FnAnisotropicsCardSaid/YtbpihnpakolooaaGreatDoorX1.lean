
/- The walks of gcd, l10Common, slices.Grow, slices.Concat over int64. -/
import Derived.Test.YtbpihnpakolooaaGreatDoorC2
import Derived.Test.YtbpihnpakolooaaGreatDoorSa
import Derived.Test.YtbpihnpakolooaaGreatDoorBa
import Derived.WalkLawsBesides
import Derived.Lib.AppendZeros
import Derived.Lib.SliceRun
namespace Go.Proofs.YtbpihnpakolooaaGreatDoor
open Go Go.RowKit
set_option linter.unusedSimpArgs false
set_option linter.unusedVariables false

theorem gcd_step (p q : Nat) : Nat.gcd q (p % q) = Nat.gcd p q := by rw [Nat.gcd_comm q, ← Nat.gcd_rec, Nat.gcd_comm]
set_option maxHeartbeats 1000000 in
theorem gcd_any (w : World) (a b : Nat) (ha : a ≤ 1000000000) (hb : b ≤ 1000000000) : Calls Tryz.prog 131 #[.int .i64 a, .int .i64 b] w (Qt w (.int .i64 (Nat.gcd a b : Nat))) := by
 go_enter Tryz.func131, Tryz.ntmps131
 go_wp2_with fail
 go_loopw [0, 1] (fun x y wr => ∃ p q : Nat, x = .int .i64 p ∧ y = .int .i64 q ∧ p ≤ 1000000000 ∧ q ≤ 1000000000 ∧ Nat.gcd p q = Nat.gcd a b ∧ Dr w wr) (fun _ y _ => (intOf y).toNat)
 case atStart => exact ⟨a, b, rfl, rfl, ha, hb, rfl, Dr.refl _⟩
 case round =>
  obtain ⟨p, q, rfl, rfl, hp, hq, hg, hDr⟩ := hrel
  have hG := hide hg
  clear hg
  by_cases hz : q = 0
  ·have hzb : ((q : Int) != 0) = false := by simp [hz]
   have hE := hide (show Nat.gcd a b = p by rw [← hG.out, hz, Nat.gcd_zero_right])
   have hZ := hide hz
   clear hz
   have t1 : IntKind.i64.wrap (-(p : Int)) = -(p : Int) := wrap_in (by omega) (by omega)
   have t2 : ¬ (p : Int) < -(p : Int) := by omega
   have t3 : -(p : Int) ≤ (p : Int) := by omega
   go_wp2_with fail
   go_ret
   obtain ⟨m, rfl⟩ := hDr
   exact Qt.mk' m rfl (int_eq (by rw [hE.out]; try omega))
  ·have hzb : ((q : Int) != 0) = true := by rw [bne_iff_ne]; omega
   have hS := hide (gcd_step p q)
   have hlt : p % q < q := Nat.mod_lt _ (by omega)
   have t0 : ¬ (q : Int) = 0 := by omega
   obtain ⟨r, hr⟩ : ∃ r, p % q = r := ⟨_, rfl⟩
   have t1 : (p : Int).tmod q = r := by rw [Int.tmod_eq_emod_of_nonneg (by omega), ← hr]; rfl
   have t2 : (p : Int) % q = r := by rw [← hr]; rfl
   have hS2 := hide (show Nat.gcd q r = Nat.gcd a b by rw [← hr, hS.out, hG.out])
   rw [hr] at hlt
   clear hr
   go_wp2_with fail
   refine wp_region_dr [0, 1, 2, 3, 4, 5] 5 w (by kernel_rfl) (by kernel_rfl) (by kernel_rfl) (fun _ _ _ _ _ h => h) hDr (fun wd hDr => ?_)
   repeat (first | (apply ord_tk rfl (by rfl) (by rfl) (by rfl); (focus (rintro w ⟨dm, rfl⟩; go_simp; (try with_reducible rfl))); (try simp only [Act.put, List.setIfInBounds_toArray, List.set_cons_zero, List.set_cons_succ])) | (apply ord_skip rfl (by rfl) (by rfl) (fun _ => hDr); (try simp only [Act.put, List.setIfInBounds_toArray, List.set_cons_zero, List.set_cons_succ])))
   refine ord_do rfl (by rfl) (by rfl) (fun K hK => ?_)
   go_simp
   refine hK.out _ _ (fun h => absurd h (by omega)) ?_
   (try simp only [Act.put, List.setIfInBounds_toArray, List.set_cons_zero, List.set_cons_succ])
   clear hK K
   refine ord_nil ?_
   go_wp2_with fail
   go_roundw
   case rel => exact ⟨q, r, rfl, rfl, by omega, by omega, hS2.out, hDr⟩
   case measure => simp [intOf] <;> omega
set_option maxHeartbeats 1000000 in
theorem l10Common_any (w : World) (a b : Nat) (ha : a ≤ 1000000000) (hb : b ≤ 1000000000) : Calls Tryz.prog 125 #[.int .i64 a, .int .i64 b] w (Qt w (.int .i64 (Nat.gcd a b : Nat))) := by
 go_enter Tryz.func125, Tryz.ntmps125
 go_wp2_with fail
 go_loop [0, 1] (fun x y => ∃ p q : Nat, x = .int .i64 p ∧ y = .int .i64 q ∧ p ≤ 1000000000 ∧ q ≤ 1000000000 ∧ Nat.gcd p q = Nat.gcd a b) (fun _ y => (intOf y).toNat)
 case atStart => exact ⟨a, b, rfl, rfl, ha, hb, rfl⟩
 case round =>
  obtain ⟨p, q, rfl, rfl, hp, hq, hg⟩ := hrel
  have hG := hide hg
  clear hg
  by_cases hz : q = 0
  ·have hE := hide (show Nat.gcd a b = p by rw [← hG.out, hz, Nat.gcd_zero_right])
   have hzi : ¬ (0 : Int) < (q : Int) := by omega
   have hzn : ¬ 0 < q := by omega
   have hZ := hide hz
   clear hz
   go_wp2_with fail
   go_ret
   exact Qt.mk' 0 rfl (int_eq (by rw [hE.out]))
  ·have hzn : 0 < q := by omega
   have hS := hide (gcd_step p q)
   have hlt : p % q < q := Nat.mod_lt _ (by omega)
   have t0 : ¬ (q : Int) = 0 := by omega
   obtain ⟨r, hr⟩ : ∃ r, p % q = r := ⟨_, rfl⟩
   have t1 : (p : Int).tmod q = r := by rw [Int.tmod_eq_emod_of_nonneg (by omega), ← hr]; rfl
   have t2 : (p : Int) % q = r := by rw [← hr]; rfl
   have hS2 := hide (show Nat.gcd q r = Nat.gcd a b by rw [← hr, hS.out, hG.out])
   rw [hr] at hlt
   clear hr
   go_wp2_with fail
   go_round
   case rel => exact ⟨q, r, rfl, rfl, by omega, by omega, hS2.out⟩
   case measure => simp [intOf] <;> omega

set_option maxRecDepth 100000 in
set_option maxHeartbeats 1000000 in
theorem grow_any (w : World) (n : Nat) (h1 : 1 ≤ n) (hn : n ≤ 1048576) : Calls Tryz.prog 153 #[.slice none 0 0, .int .i64 n] w (Mk w []) := by
 obtain ⟨i0, hi0, hz0, hz1, hz2⟩ := info_parts int_info
 have hrun := fun W ty => Lib.run_append_nil_zeros (P := Tryz.prog) W 24 3 ty 2 i0 _ .i64 .i64 Tryz.underlying24 Tryz.underlying3 hi0 hz0 n (by omega) (by rw [hz1]; omega) (by omega) (by rw [hz2]; omega)
 have hge := fun W => grownCap_ge W n 0 2
 have hle := fun W => grownCap_le_maxLen W n 0 2 (by unfold maxLen; omega)
 have t1 : (0 : Int) < n := by omega
 have t2 : ¬ (n : Int) < 0 := by omega
 have t3 : ¬ n = 0 := by omega
 have HG := hide hge
 have HL := hide hle
 have HR := hide hrun
 clear hge hle hrun
 go_enter Tryz.func153, Tryz.ntmps153
 go_wp2_with (at_builtin; refine Lib.wpList_append_run _ rfl _ _ _ _ rfl _ _ rfl rfl _ _ (HR.out _ _) ?_)
 go_ret
 refine ⟨_, rfl, ⟨rfl, .inr ⟨w.heap.size, grownCap w n 0 2, _, rfl, Nat.le_refl _, heap_alloc_new w.drew _, Nat.zero_le _, HL.out w, ?_, rfl⟩⟩, (Below.refl _ _).drew.alloc (Nat.le_refl _) _⟩
 have := HG.out w
 simp [Builtin.zeroCells]
 omega

/-- The lists 0, .., k - 1 of a family, one behind another. -/
def cat (xs : Nat → List Int) (k : Nat) : List Int := (List.range k).flatMap xs
theorem cat_succ (xs : Nat → List Int) (k : Nat) : cat xs (k + 1) = cat xs k ++ xs k := by simp [cat, List.range_succ, List.flatMap_append]
theorem cat_le (xs : Nat → List Int) {k m : Nat} (h : k ≤ m) : (cat xs k).length ≤ (cat xs m).length := by
 induction m with
 | zero => rw [show k = 0 by omega]; exact Nat.le_refl _
 | succ m ih =>
  rcases Nat.lt_or_ge k (m + 1) with h' | h'
  ·rw [cat_succ, List.length_append]; have := ih (by omega); omega
  ·rw [show k = m + 1 by omega]; exact Nat.le_refl _
set_option maxRecDepth 100000 in
set_option maxHeartbeats 2000000 in
theorem concat_any (w : World) (S m : Nat) (A : Nat → Option Addr) (n c : Nat → Nat) (xs : Nat → List Int) (hS : ∀ k, k < m → w.cell? ⟨S, k, none⟩ = some (.slice (A k) (n k) (c k))) (hSl : S < w.heap.size)
  (hx : ∀ k, k < m → Sl w w.heap.size (A k) (n k) (c k) (xs k)) (hn1 : ∀ k, k < m → 1 ≤ n k) (hm : m ≤ 1000) (htot : (cat xs m).length ≤ 1048576) (hpos : 1 ≤ (cat xs m).length) :
  Calls Tryz.prog 130 #[.slice (some ⟨S, 0, none⟩) m m] w (Mk w (cat xs m)) := by
 obtain ⟨i0, hi0, hz0, hz1, hz2⟩ := info_parts int_info
 have HS := hide hS
 have HX := hide hx
 have HN := hide hn1
 have h00 := hide (show (cat xs 0).length = 0 from rfl)
 clear hS hx hn1
 go_enter Tryz.func130, Tryz.ntmps130
 go_wp2_with fail
 go_loop [3, 11] (fun s i => ∃ k q : Nat, k ≤ m ∧ i = .int .i64 k ∧ s = .int .i64 q ∧ q = (cat xs k).length) (fun _ i => m - (intOf i).toNat)
 case atStart => exact ⟨0, 0, by omega, rfl, rfl, rfl⟩
 case round =>
  obtain ⟨k, q, hk, rfl, rfl, hq⟩ := hrel
  have hqle : q ≤ (cat xs m).length := by rw [hq]; exact cat_le xs hk
  have HQ := hide hq
  clear hq
  by_cases hlt : k < m
  ·have c1 := HS.out k hlt
   have hl := (HX.out k hlt).len
   have hsn := hide (show (cat xs (k + 1)).length = q + n k by rw [cat_succ, List.length_append, HQ.out, hl])
   have hsle : q + n k ≤ 1048576 := by have := cat_le xs (show k + 1 ≤ m by omega); rw [hsn.out] at this; omega
   have HL := hide hl
   clear hl
   have t2 : ¬ (q : Int) + (n k : Int) < 0 := by omega
   go_wp2_with fail
   go_round
   case rel => exact ⟨k + 1, q + n k, by omega, by go_num, int_eq (by omega), hsn.out.symm⟩
   case measure => simp [intOf] <;> omega
  ·obtain rfl : k = m := by omega
   have hq1 : 1 ≤ q := by rw [HQ.out]; exact hpos
   have hq2 : q ≤ 1048576 := by omega
   go_wp2_with fail
   refine (grow_any _ q hq1 hq2).mono ?_
   rintro e w2 ⟨v, rfl, hO, hb⟩
   have hC0 := hide (show cat xs 0 = [] from rfl)
   go_wp2_with fail
   go_loopw [6, 27] (fun o i wr => ∃ (k' : Nat) (vv : Value), k' ≤ k ∧ i = .int .i64 k' ∧ vv = o ∧ Ow wr w.heap.size vv (cat xs k') ∧ Below w.heap.size w wr) (fun _ i _ => k - (intOf i).toNat)
   case atStart => exact ⟨0, _, by omega, rfl, rfl, by rw [hC0.out]; exact hO, hb⟩
   case round =>
    clear hO hb
    obtain ⟨j, vv, hj, rfl, rfl, hO, hBe⟩ := hrel
    by_cases hlj : j < k
    ·have c1 := (hBe.cell (p := ⟨S, j, none⟩) hSl).trans (HS.out j hlj)
     have hxj := (HX.out j hlj).below hBe
     have hn1 := HN.out j hlj
     obtain ⟨b, off, hA, hbl, _⟩ := hxj.at_ hn1
     obtain ⟨zs, hzs⟩ : ∃ zs, xs j = zs := ⟨_, rfl⟩
     have hcat := hide (show cat xs (j + 1) = cat xs j ++ zs by rw [cat_succ, hzs])
     have hle := cat_le xs (show j + 1 ≤ k by omega)
     rw [hcat.out, List.length_append] at hle
     rw [hzs] at hxj
     rw [hA] at hxj c1
     obtain ⟨nj, hnj⟩ : ∃ nj, n j = nj := ⟨_, rfl⟩
     obtain ⟨cj, hcj⟩ : ∃ cj, c j = cj := ⟨_, rfl⟩
     rw [hnj] at hxj c1 hn1
     rw [hcj] at hxj c1
     clear hA hzs hnj hcj
     obtain rfl := hxj.len
     have hsz := hBe.size
     go_wp2_with (at_builtin; refine wpList_append_own _ rfl _ _ 24 rfl w.heap.size 2 i0 _ 1 8 Tryz.underlying24 hi0 hz0 hz1 hz2 rfl (by omega) vv _ _ rfl hO _ zs.length cj (zs.map (Value.int .i64)) rfl (by simp) hxj.news ints_one (by unfold maxLen; omega) (by omega) (by omega) ?_; intro v' w' g2 g3 g4)
     go_roundw
     case rel => exact ⟨j + 1, v', by omega, by go_num, rfl, by rw [hcat.out]; unfold Ow; simpa using g2, hBe.grown g3 hsz (fun k hk => (hO.lt k hk).1)⟩
     case measure => simp [intOf] <;> omega
    ·obtain rfl : j = k := by omega
     go_wp2_with fail
     go_ret
     exact ⟨vv, rfl, hO, hBe⟩
end Go.Proofs.YtbpihnpakolooaaGreatDoor
