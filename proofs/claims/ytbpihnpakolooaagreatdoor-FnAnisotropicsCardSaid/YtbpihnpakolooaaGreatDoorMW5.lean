
/- The masks of isotropic and of Lagrangian subgroups, as the reference makes them. -/
import Derived.Test.YtbpihnpakolooaaGreatDoorMWy
import Derived.Deep.QuietTactic
import Derived.BigQuiet
namespace Go.Proofs.YtbpihnpakolooaaGreatDoor
open Go Go.RowKit Grp
set_option linter.unusedSimpArgs false
set_option linter.unusedVariables false
theorem l01Same_any (w : World) (B B' : Nat) (A A' : Option Addr) (n n' c c' : Nat) (xs ys : List Int) (h : Sl w B A n c xs) (h' : Sl w B' A' n' c' ys) (hn : n ≤ 1048576) :
  Calls Tryz.prog 121 #[.slice A n c, .slice A' n' c'] w (Qt w (.bool (xs == ys))) := by
 by_cases hne : n = n'
 ·obtain rfl := hne
  go_enter Tryz.func121, Tryz.ntmps121
  go_wp2
  go_loopw [5] (fun i wr => ∃ k : Nat, k ≤ n ∧ i = .int .i64 k ∧ xs.take k = ys.take k ∧ ∃ m, w.drewN m = wr) (fun i _ => n - (intOf i).toNat)
  case atStart => exact ⟨0, by omega, rfl, rfl, 0, rfl⟩
  case round =>
   obtain ⟨k, hk, rfl, hpre, m, rfl⟩ := hrel
   have hP := hide hpre
   clear hpre
   by_cases hlt : k < n
   ·obtain ⟨b, off, rfl, hb, hc⟩ := h.at_ (by omega)
    obtain ⟨b', off', rfl, hb', hc'⟩ := h'.at_ (by omega)
    have c1 := hc k hlt
    have c2 := hc' k hlt
    clear hc hc'
    by_cases hq : gi xs k = gi ys k
    ·have hq1 : (gi xs k != gi ys k) = false := by simp [hq]
     have hQ := hide hq
     clear hq
     go_wp2
     go_quiet (fail)
     go_wp2
     go_roundw
     case rel => exact ⟨k + 1, by omega, by go_num, take_step (by rw [h.len]; exact hlt) (by rw [h'.len]; exact hlt) hP.out hQ.out, _, rfl⟩
     case measure => simp [intOf]; omega
    ·have hq1 : (gi xs k != gi ys k) = true := by simp [hq]
     go_wp2
     go_quiet (fail)
     go_wp2
     go_ret
     exact Qt.d2 (bool_eq (ne_of_gi hq).symm)
   ·go_wp2
    go_ret
    have : xs = ys := by
     have e := hP.out
     rwa [List.take_of_length_le (by rw [h.len]; omega), List.take_of_length_le (by rw [h'.len]; omega)] at e
    exact Qt.d1 (bool_eq (by simp [this]))
 ·go_enter Tryz.func121, Tryz.ntmps121
  go_wp2
  go_ret
  exact Qt.mk' 0 rfl (bool_eq (by symm; rw [beq_eq_false_iff_ne]; rintro rfl; exact hne (h.len.symm.trans h'.len)))
/-- The masks of isotropic, and of Lagrangian subgroups. -/
noncomputable def isoK (os vs : List Int) : List Int := (sgK os vs.length).filter fun m => isoB vs (mems vs.length m.toNat)
noncomputable def lagK (os : List Int) (D : Int) (vs : List Int) : List Int := (isoK os vs).filter fun m => ortL os D vs (mems vs.length m.toNat) vs.length == mems vs.length m.toNat
theorem sgK_rng {os : List Int} {N : Nat} (hN : N ≤ 16) : ∀ x ∈ sgK os N, 0 ≤ x ∧ x < 2 ^ N ∧ x < 65536 := fun x hx => by
 obtain ⟨m, hm, rfl⟩ := List.mem_map.1 hx
 have h1 := (mem_allK.1 hm).1
 have h2 : (2 : Nat) ^ N ≤ 65536 := Nat.le_trans (Nat.pow_le_pow_right (by omega) hN) (by decide)
 have h3 : ((m : Nat) : Int) < ((2 ^ N : Nat) : Int) := by omega
 rw [Int.natCast_pow] at h3
 exact ⟨by omega, h3, by omega⟩
theorem sgK_len {os : List Int} {N : Nat} (hN : N ≤ 16) : (sgK os N).length ≤ 65536 := by
 unfold sgK
 rw [List.length_map]
 have : (allK os N).length ≤ 2 ^ N := by unfold allK; exact Nat.le_trans (List.length_filter_le _ _) (by simp)
 exact Nat.le_trans this (Nat.le_trans (Nat.pow_le_pow_right (by omega) hN) (by decide))
theorem isoK_sub {os vs : List Int} : ∀ x ∈ isoK os vs, x ∈ sgK os vs.length := fun x hx => (List.mem_filter.1 hx).1
theorem isoK_len (os vs : List Int) : (isoK os vs).length ≤ (sgK os vs.length).length := List.length_filter_le _ _
theorem lagK_sub {os vs : List Int} {D : Int} : ∀ x ∈ lagK os D vs, x ∈ sgK os vs.length := fun x hx => isoK_sub x (List.mem_filter.1 hx).1
/-- A list filtered, its first k elements looked at. -/
theorem flt_t {p : Int → Bool} {xs : List Int} {k : Nat} (hk : k < xs.length) (h : p (gi xs k) = true) : (xs.take (k + 1)).filter p = (xs.take k).filter p ++ [gi xs k] := by rw [take_gi hk, List.filter_append]; simp [h]
theorem flt_f {p : Int → Bool} {xs : List Int} {k : Nat} (hk : k < xs.length) (h : p (gi xs k) = false) : (xs.take (k + 1)).filter p = (xs.take k).filter p := by rw [take_gi hk, List.filter_append]; simp [h]
theorem flt_len {p : Int → Bool} {xs : List Int} {k : Nat} : ((xs.take k).filter p).length ≤ xs.length := Nat.le_trans (List.length_filter_le _ _) (by simp; omega)
set_option maxHeartbeats 4000000 in
theorem l11IsoMasks_any (w : World) (A : Option Addr) (n c : Nat) (os : List Int) (D : Int) (A' : Option Addr) (n' c' : Nat) (vs : List Int)
  (h : Sl w w.heap.size A n c os) (h' : Sl w w.heap.size A' n' c' vs) (hok : OkM os D vs) :
  Calls Tryz.prog 67 #[.agg #[.slice A n c, .int .i64 D, .slice A' n' c']] w (Mk w (isoK os vs)) := by
 obtain rfl := h'.len
 have hG := hok.g
 have hN : prodL os = vs.length := hok.len.symm
 have N16 := hok.lt
 have HN := hide hN
 have HR := hide (show ∀ x ∈ sgK os vs.length, 0 ≤ x ∧ x < 2 ^ vs.length ∧ x < 65536 from fun x hx => sgK_rng N16 x (by first | exact hx | exact isoK_sub x hx))
 have HL := hide (show (sgK os vs.length).length ≤ 65536 from Nat.le_trans (by first | exact Nat.le_refl _ | exact isoK_len os vs) (sgK_len N16))
 have HF := hide (show isoK os vs = (sgK os vs.length).filter (fun m : Int => isoB vs (mems vs.length m.toNat)) from rfl)
 have hall := fun W A n c A' c' (h1 : Sl W W.heap.size A n c os) (h2 : Sl W W.heap.size A' vs.length c' vs) => l11Masks_any W A n c os D A' vs.length c' vs.length h1 hG hN
 have HML := hide (fun m => mems_len vs.length m)
 clear hN
 obtain ⟨ml, has⟩ : ∃ ml, sgK os vs.length = ml := ⟨_, rfl⟩
 simp only [has] at HR HL HF hall
 clear has
 have hLas := HL.out
 go_enter Tryz.func67, Tryz.ntmps67
 go_wp2_with fail
 obtain ⟨W, hW⟩ : ∃ W, w.alloc (.cells #[.slice A n c, .int .i64 D, .slice A' vs.length c'] 26) = W := ⟨_, rfl⟩
 have hbW : Below w.heap.size w W := by rw [← hW]; exact (by repeat (first | assumption | exact Below.refl _ _ | apply below_drewN | apply Below.drew | apply Below.alloc | apply Below.setCell | omega | (focus (simp; done)) | (focus (simp; omega))))
 have hszW : w.heap.size < W.heap.size := by rw [← hW]; simp
 have hsW := hide (show W.heap.size = w.heap.size + 1 by rw [← hW]; simp)
 have bM : Blk W w.heap.size 26 #[.slice A n c, .int .i64 D, .slice A' vs.length c'] := by rw [← hW]; exact Blk.new _ _ _
 have q0 : W.cell? ⟨w.heap.size, 0, none⟩ = some (.slice A n c) := by rw [← hW]; exact (Blk.new _ _ _).cell 0
 have q1 : W.cell? ⟨w.heap.size, 1, none⟩ = some (.int .i64 D) := by rw [← hW]; exact (Blk.new _ _ _).cell 1
 have q2 : W.cell? ⟨w.heap.size, 2, none⟩ = some (.slice A' vs.length c') := by rw [← hW]; exact (Blk.new _ _ _).cell 2
 rw [hW]
 clear hW
 have hs := (h.below hbW).more (Nat.le_of_lt hszW)
 have hs' := (h'.below hbW).more (Nat.le_of_lt hszW)
 refine (hall _ _ _ _ _ _ hs hs').mono ?_
 rintro e w3 ⟨v, rfl, hV, hb3⟩
 have HR6 := hide (show ∀ x ∈ ml, i64ok x from fun x hx => by have := HR.out x hx; exact ⟨by omega, by omega⟩)
 obtain ⟨sA, sc, rfl, hSa⟩ := hV.sl HR6.out
 have hz3 : w.heap.size < w3.heap.size := Nat.lt_of_lt_of_le hszW hb3.size
 have p0 := (hb3.cell (p := ⟨w.heap.size, 0, none⟩) hszW).trans q0
 have p1 := (hb3.cell (p := ⟨w.heap.size, 1, none⟩) hszW).trans q1
 have p2 := (hb3.cell (p := ⟨w.heap.size, 2, none⟩) hszW).trans q2
 have hsl : ∀ wd, Below w3.heap.size w3 wd → Sl wd wd.heap.size A n c os := fun wd h9 => ((hs.below hb3).more hb3.size).below h9 |>.more h9.size
 have hsv : ∀ wd, Below w3.heap.size w3 wd → Sl wd wd.heap.size A' vs.length c' vs := fun wd h9 => ((hs'.below hb3).more hb3.size).below h9 |>.more h9.size
 have hb0 := hbW.trans (hb3.mono (Nat.le_of_lt hszW))
 have hB2 : Below w3.heap.size w3 (w3.alloc (.cells #[] 2)) := (Below.refl _ _).alloc (Nat.le_refl _) _
 have hO2 : Ow (w3.alloc (.cells #[] 2)) w3.heap.size (.slice (some ⟨w3.heap.size, 0, none⟩) 0 0) [] := Ow.made' (xs := []) w3 #[] w3.heap.size 0 rfl rfl (Nat.le_refl _) rfl (by unfold maxLen; omega)
 clear hall hV hb3 hs hs' q0 q1 q2 bM
 obtain ⟨al, hal⟩ : ∃ al, al = ml.length := ⟨_, rfl⟩
 have HAL := hide hal
 rw [← hal] at hSa hLas ⊢
 clear hal
 go_wp2_with fail
 go_loopw [4, 5] (fun o i wr => ∃ (k : Nat) (vv : Value), k ≤ al ∧ i = .int .i64 k ∧ vv = o ∧ Ow wr w3.heap.size vv ((ml.take k).filter (fun m : Int => isoB vs (mems vs.length m.toNat))) ∧ Below w3.heap.size w3 wr) (fun _ i _ => al - (intOf i).toNat)
 case atStart => exact ⟨0, _, by omega, rfl, rfl, hO2, hB2⟩
 case round =>
  clear hO2 hB2
  obtain ⟨k, vv, hk, rfl, rfl, hO, hBe⟩ := hrel
  by_cases hlt : k < al
  ·obtain ⟨b, off, rfl, hb, hc⟩ := hSa.at_ (by omega)
   have c1 := hc k hlt
   clear hc
   have hlk : k < ml.length := by rw [← HAL.out]; exact hlt
   have hr := HR.out _ (gi_mem hlk)
   obtain ⟨m, hm⟩ := Int.eq_ofNat_of_zero_le hr.1
   have hF1 := flt_t (p := (fun m : Int => isoB vs (mems vs.length m.toNat))) hlk
   have hF0 := flt_f (p := (fun m : Int => isoB vs (mems vs.length m.toNat))) hlk
   have hfl : ((ml.take k).filter (fun m : Int => isoB vs (mems vs.length m.toNat))).length ≤ 1048576 := Nat.le_trans flt_len (by rw [← HAL.out]; omega)
   rw [hm] at c1 hr hF1 hF0
   simp only [Int.toNat_natCast] at hF1 hF0
   have hm6 : m < 65536 := by omega
   have hll := HML.out m
   have HRm := hide (show ∀ x ∈ mems vs.length m, 0 ≤ x ∧ x < (vs.length : Int) from mems_rng)
   have HRp := hide (show ∀ x ∈ mems vs.length m, 0 ≤ x ∧ x < prodL os by rw [HN.out]; exact mems_rng)
   have HRi := hide (show ∀ x ∈ mems vs.length m, i64ok x from fun x hx => by have := mems_rng x hx; exact ⟨by omega, by omega⟩)
   have hB0 := hBe
   have hzr : w3.heap.size ≤ wr.heap.size := hBe.size
   have y0 := (hBe.cell (p := ⟨w.heap.size, 0, none⟩) hz3).trans p0
   have y1 := (hBe.cell (p := ⟨w.heap.size, 1, none⟩) hz3).trans p1
   have y2 := (hBe.cell (p := ⟨w.heap.size, 2, none⟩) hz3).trans p2
   have y3 := (hBe.cell (p := ⟨b, off + k, none⟩) hb).trans c1
   have hbr : b < wr.heap.size := by omega
   have hwr : w.heap.size < wr.heap.size := by omega
   clear hlk hm hr c1
   obtain ⟨p, hp⟩ : ∃ p, isoB vs (mems vs.length m) = p := ⟨_, rfl⟩
   rw [hp] at hF1 hF0
   have HF1 := hide hF1
   have HF0 := hide hF0
   have hiso := fun W A n c D A' n' c' L l lc h1 h2 h3 h4 => l11Isotropic_any W A n c os D A' n' c' vs L l lc (mems vs.length m) h1 h2 h3 h4 HRm.out
   rw [hp] at hiso
   clear hp hF1 hF0
   go_upto_region 5 with fail
   refine wp_region_be [0, 1, 2, 4, 5, 6, 7, 3, 8, 9] 10 wr.heap.size wr (by kernel_rfl) (by kernel_rfl) (by kernel_rfl) (fun _ _ _ _ _ h => h) (Below.refl _ _) (fun wd hBe => ?_)
   repeat (first | (apply ord_tk rfl (by rfl) (by rfl) (by rfl); (focus (intro wx hSw; have r0 := (hSw.cell (p := ⟨w.heap.size, 0, none⟩) hwr).trans y0; have r1 := (hSw.cell (p := ⟨w.heap.size, 1, none⟩) hwr).trans y1; have r2 := (hSw.cell (p := ⟨w.heap.size, 2, none⟩) hwr).trans y2; have r3 := (hSw.cell (p := ⟨b, off + k, none⟩) hbr).trans y3; go_simp; (try with_reducible rfl))); (try simp only [Act.put, List.setIfInBounds_toArray, List.set_cons_zero, List.set_cons_succ])) | (apply ord_skip rfl (by rfl) (by rfl) (fun _ => hBe); (try simp only [Act.put, List.setIfInBounds_toArray, List.set_cons_zero, List.set_cons_succ])))
   refine ord_do rfl (by rfl) (by rfl) (fun K hK => ?_)
   go_simp
   refine (l10Size_any _ _ _ _ _ _ (hsl _ (hB0.trans (hBe.mono hB0.size))) hG).mono ?_
   rw [HN.out]
   rintro e w4 ⟨rfl, m4, hw4⟩
   replace hBe : Below wr.heap.size wr w4 := by rw [hw4]; exact below_drewN hBe m4
   clear hw4
   refine hK.out _ _ (fun _ => hBe) ?_
   (try simp only [Act.put, List.setIfInBounds_toArray, List.set_cons_zero, List.set_cons_succ])
   clear hK K
   repeat (first | (apply ord_tk rfl (by rfl) (by rfl) (by rfl); (focus (intro wx hSw; have r0 := (hSw.cell (p := ⟨w.heap.size, 0, none⟩) hwr).trans y0; have r1 := (hSw.cell (p := ⟨w.heap.size, 1, none⟩) hwr).trans y1; have r2 := (hSw.cell (p := ⟨w.heap.size, 2, none⟩) hwr).trans y2; have r3 := (hSw.cell (p := ⟨b, off + k, none⟩) hbr).trans y3; go_simp; (try with_reducible rfl))); (try simp only [Act.put, List.setIfInBounds_toArray, List.set_cons_zero, List.set_cons_succ])) | (apply ord_skip rfl (by rfl) (by rfl) (fun _ => hBe); (try simp only [Act.put, List.setIfInBounds_toArray, List.set_cons_zero, List.set_cons_succ])))
   refine ord_do rfl (by rfl) (by rfl) (fun K hK => ?_)
   go_simp
   refine (l11Members_any _ vs.length m N16 hm6).mono ?_
   rintro e w5 ⟨v5, rfl, hV5, hb5⟩
   have hz5 := hBe.size
   replace hBe := hBe.trans (hb5.mono hBe.size)
   refine hK.out _ _ (fun _ => hBe) ?_
   (try simp only [Act.put, List.setIfInBounds_toArray, List.set_cons_zero, List.set_cons_succ])
   clear hK K
   obtain ⟨mA, mc, rfl, hSm⟩ := hV5.sl HRi.out
   repeat (first | (apply ord_tk rfl (by rfl) (by rfl) (by rfl); (focus (intro wx hSw; have r0 := (hSw.cell (p := ⟨w.heap.size, 0, none⟩) hwr).trans y0; have r1 := (hSw.cell (p := ⟨w.heap.size, 1, none⟩) hwr).trans y1; have r2 := (hSw.cell (p := ⟨w.heap.size, 2, none⟩) hwr).trans y2; have r3 := (hSw.cell (p := ⟨b, off + k, none⟩) hbr).trans y3; go_simp; (try with_reducible rfl))); (try simp only [Act.put, List.setIfInBounds_toArray, List.set_cons_zero, List.set_cons_succ])) | (apply ord_skip rfl (by rfl) (by rfl) (fun _ => hBe); (try simp only [Act.put, List.setIfInBounds_toArray, List.set_cons_zero, List.set_cons_succ])))
   refine ord_do rfl (by rfl) (by rfl) (fun K hK => ?_)
   go_simp
   refine (hiso _ _ _ _ _ _ _ _ _ _ _ (hsv _ (hB0.trans (hBe.mono hB0.size))) hSm (by omega) (by omega)).mono ?_
   rintro e w6 ⟨rfl, hb6⟩
   replace hBe := hBe.trans (hb6.mono hBe.size)
   refine hK.out _ _ (fun _ => hBe) ?_
   (try simp only [Act.put, List.setIfInBounds_toArray, List.set_cons_zero, List.set_cons_succ])
   clear hK K
   refine ord_nil ?_
   replace hO := hO.below hBe
   have c3 := (hBe.cell (p := ⟨b, off + k, none⟩) hbr).trans y3
   replace hBe := hB0.trans (hBe.mono hB0.size)
   clear hB0 y0 y1 y2 y3 hb5 hb6 hSm hV5 hiso hz5
   cases p with
   | true =>
    have hF := hide (HF1.out rfl)
    clear HF1 HF0
    go_wp2_with (at_builtin; refine list_push _ rfl _ _ rfl w3.heap.size _ _ rfl (hO.alloc _) (m : Int) _ _ rfl (Blk.new _ _ _) hfl (by have := hBe.size; simp at this ⊢; omega) (by simp) ?_; intro g' cap' w8 hP4)
    go_roundw
    case rel => exact ⟨k + 1, _, by omega, by go_num, rfl, by rw [hF.out]; exact hP4.own, (hBe.alloc hBe.size _).trans (hP4.below (hO.alloc _) (by have := hBe.size; simp at this ⊢; omega))⟩
    case measure => simp [intOf] <;> omega
   | false =>
    have hF := hide (HF0.out rfl)
    clear HF1 HF0
    go_wp2_with fail
    go_roundw
    case rel => exact ⟨k + 1, _, by omega, by go_num, rfl, by rw [hF.out]; exact hO, hBe⟩
    case measure => simp [intOf] <;> omega
  ·obtain rfl : k = al := by omega
   rw [List.take_of_length_le (by rw [← HAL.out]; exact Nat.le_refl _), ← HF.out] at hO
   go_wp2_with fail
   go_ret
   exact ⟨_, rfl, hO.less (Nat.le_of_lt hz3), hb0.trans (hBe.mono (Nat.le_of_lt hz3))⟩
set_option maxHeartbeats 4000000 in
theorem l11Lag_any (w : World) (A : Option Addr) (n c : Nat) (os : List Int) (D : Int) (A' : Option Addr) (n' c' : Nat) (vs : List Int)
  (h : Sl w w.heap.size A n c os) (h' : Sl w w.heap.size A' n' c' vs) (hok : OkM os D vs) :
  Calls Tryz.prog 70 #[.agg #[.slice A n c, .int .i64 D, .slice A' n' c']] w (Mk w (lagK os D vs)) := by
 obtain rfl := h'.len
 have hG := hok.g
 have hN : prodL os = vs.length := hok.len.symm
 have N16 := hok.lt
 have HN := hide hN
 have HR := hide (show ∀ x ∈ isoK os vs, 0 ≤ x ∧ x < 2 ^ vs.length ∧ x < 65536 from fun x hx => sgK_rng N16 x (by first | exact hx | exact isoK_sub x hx))
 have HL := hide (show (isoK os vs).length ≤ 65536 from Nat.le_trans (by first | exact Nat.le_refl _ | exact isoK_len os vs) (sgK_len N16))
 have HF := hide (show lagK os D vs = (isoK os vs).filter (fun m : Int => ortL os D vs (mems vs.length m.toNat) vs.length == mems vs.length m.toNat) from rfl)
 have hall := fun W A n c A' c' (h1 : Sl W W.heap.size A n c os) (h2 : Sl W W.heap.size A' vs.length c' vs) => l11IsoMasks_any W A n c os D A' vs.length c' vs h1 h2 hok
 have HML := hide (fun m => mems_len vs.length m)
 clear hN
 obtain ⟨ml, has⟩ : ∃ ml, isoK os vs = ml := ⟨_, rfl⟩
 simp only [has] at HR HL HF hall
 clear has
 have hLas := HL.out
 go_enter Tryz.func70, Tryz.ntmps70
 go_wp2_with fail
 obtain ⟨W, hW⟩ : ∃ W, w.alloc (.cells #[.slice A n c, .int .i64 D, .slice A' vs.length c'] 26) = W := ⟨_, rfl⟩
 have hbW : Below w.heap.size w W := by rw [← hW]; exact (by repeat (first | assumption | exact Below.refl _ _ | apply below_drewN | apply Below.drew | apply Below.alloc | apply Below.setCell | omega | (focus (simp; done)) | (focus (simp; omega))))
 have hszW : w.heap.size < W.heap.size := by rw [← hW]; simp
 have hsW := hide (show W.heap.size = w.heap.size + 1 by rw [← hW]; simp)
 have bM : Blk W w.heap.size 26 #[.slice A n c, .int .i64 D, .slice A' vs.length c'] := by rw [← hW]; exact Blk.new _ _ _
 have q0 : W.cell? ⟨w.heap.size, 0, none⟩ = some (.slice A n c) := by rw [← hW]; exact (Blk.new _ _ _).cell 0
 have q1 : W.cell? ⟨w.heap.size, 1, none⟩ = some (.int .i64 D) := by rw [← hW]; exact (Blk.new _ _ _).cell 1
 have q2 : W.cell? ⟨w.heap.size, 2, none⟩ = some (.slice A' vs.length c') := by rw [← hW]; exact (Blk.new _ _ _).cell 2
 rw [hW]
 clear hW
 have hs := (h.below hbW).more (Nat.le_of_lt hszW)
 have hs' := (h'.below hbW).more (Nat.le_of_lt hszW)
 refine (hall _ _ _ _ _ _ hs hs').mono ?_
 rintro e w3 ⟨v, rfl, hV, hb3⟩
 have HR6 := hide (show ∀ x ∈ ml, i64ok x from fun x hx => by have := HR.out x hx; exact ⟨by omega, by omega⟩)
 obtain ⟨sA, sc, rfl, hSa⟩ := hV.sl HR6.out
 have hz3 : w.heap.size < w3.heap.size := Nat.lt_of_lt_of_le hszW hb3.size
 have p0 := (hb3.cell (p := ⟨w.heap.size, 0, none⟩) hszW).trans q0
 have p1 := (hb3.cell (p := ⟨w.heap.size, 1, none⟩) hszW).trans q1
 have p2 := (hb3.cell (p := ⟨w.heap.size, 2, none⟩) hszW).trans q2
 have hsl : ∀ wd, Below w3.heap.size w3 wd → Sl wd wd.heap.size A n c os := fun wd h9 => ((hs.below hb3).more hb3.size).below h9 |>.more h9.size
 have hsv : ∀ wd, Below w3.heap.size w3 wd → Sl wd wd.heap.size A' vs.length c' vs := fun wd h9 => ((hs'.below hb3).more hb3.size).below h9 |>.more h9.size
 have hb0 := hbW.trans (hb3.mono (Nat.le_of_lt hszW))
 have hB2 : Below w3.heap.size w3 (w3.alloc (.cells #[] 2)) := (Below.refl _ _).alloc (Nat.le_refl _) _
 have hO2 : Ow (w3.alloc (.cells #[] 2)) w3.heap.size (.slice (some ⟨w3.heap.size, 0, none⟩) 0 0) [] := Ow.made' (xs := []) w3 #[] w3.heap.size 0 rfl rfl (Nat.le_refl _) rfl (by unfold maxLen; omega)
 clear hall hV hb3 hs hs' q0 q1 q2 bM
 obtain ⟨al, hal⟩ : ∃ al, al = ml.length := ⟨_, rfl⟩
 have HAL := hide hal
 rw [← hal] at hSa hLas ⊢
 clear hal
 go_wp2_with fail
 go_loopw [4, 5] (fun o i wr => ∃ (k : Nat) (vv : Value), k ≤ al ∧ i = .int .i64 k ∧ vv = o ∧ Ow wr w3.heap.size vv ((ml.take k).filter (fun m : Int => ortL os D vs (mems vs.length m.toNat) vs.length == mems vs.length m.toNat)) ∧ Below w3.heap.size w3 wr) (fun _ i _ => al - (intOf i).toNat)
 case atStart => exact ⟨0, _, by omega, rfl, rfl, hO2, hB2⟩
 case round =>
  clear hO2 hB2
  obtain ⟨k, vv, hk, rfl, rfl, hO, hBe⟩ := hrel
  by_cases hlt : k < al
  ·obtain ⟨b, off, rfl, hb, hc⟩ := hSa.at_ (by omega)
   have c1 := hc k hlt
   clear hc
   have hlk : k < ml.length := by rw [← HAL.out]; exact hlt
   have hr := HR.out _ (gi_mem hlk)
   obtain ⟨m, hm⟩ := Int.eq_ofNat_of_zero_le hr.1
   have hF1 := flt_t (p := (fun m : Int => ortL os D vs (mems vs.length m.toNat) vs.length == mems vs.length m.toNat)) hlk
   have hF0 := flt_f (p := (fun m : Int => ortL os D vs (mems vs.length m.toNat) vs.length == mems vs.length m.toNat)) hlk
   have hfl : ((ml.take k).filter (fun m : Int => ortL os D vs (mems vs.length m.toNat) vs.length == mems vs.length m.toNat)).length ≤ 1048576 := Nat.le_trans flt_len (by rw [← HAL.out]; omega)
   rw [hm] at c1 hr hF1 hF0
   simp only [Int.toNat_natCast] at hF1 hF0
   have hm6 : m < 65536 := by omega
   have hll := HML.out m
   have HRm := hide (show ∀ x ∈ mems vs.length m, 0 ≤ x ∧ x < (vs.length : Int) from mems_rng)
   have HRp := hide (show ∀ x ∈ mems vs.length m, 0 ≤ x ∧ x < prodL os by rw [HN.out]; exact mems_rng)
   have HRi := hide (show ∀ x ∈ mems vs.length m, i64ok x from fun x hx => by have := mems_rng x hx; exact ⟨by omega, by omega⟩)
   have hB0 := hBe
   have hzr : w3.heap.size ≤ wr.heap.size := hBe.size
   have y0 := (hBe.cell (p := ⟨w.heap.size, 0, none⟩) hz3).trans p0
   have y1 := (hBe.cell (p := ⟨w.heap.size, 1, none⟩) hz3).trans p1
   have y2 := (hBe.cell (p := ⟨w.heap.size, 2, none⟩) hz3).trans p2
   have y3 := (hBe.cell (p := ⟨b, off + k, none⟩) hb).trans c1
   have hbr : b < wr.heap.size := by omega
   have hwr : w.heap.size < wr.heap.size := by omega
   clear hlk hm hr c1
   obtain ⟨p, hp⟩ : ∃ p, (ortL os D vs (mems vs.length m) vs.length == mems vs.length m) = p := ⟨_, rfl⟩
   rw [hp] at hF1 hF0
   have HF1 := hide hF1
   have HF0 := hide hF0
   have HPP := hide hp
   have HOR := hide (show ∀ x ∈ ortL os D vs (mems vs.length m) vs.length, i64ok x from fun x hx => by have := ortL_mem x hx; exact ⟨by omega, by omega⟩)
   have hol := ortL_len os vs (mems vs.length m) D vs.length
   clear hp hF1 hF0
   go_upto_region 5 with fail
   refine wp_region_be [0, 1, 3, 4, 5, 6, 2, 7, 8] 8 wr.heap.size wr (by kernel_rfl) (by kernel_rfl) (by kernel_rfl) (fun _ _ _ _ _ h => h) (Below.refl _ _) (fun wd hBe => ?_)
   repeat (first | (apply ord_tk rfl (by rfl) (by rfl) (by rfl); (focus (intro wx hSw; have r0 := (hSw.cell (p := ⟨w.heap.size, 0, none⟩) hwr).trans y0; have r1 := (hSw.cell (p := ⟨w.heap.size, 1, none⟩) hwr).trans y1; have r2 := (hSw.cell (p := ⟨w.heap.size, 2, none⟩) hwr).trans y2; have r3 := (hSw.cell (p := ⟨b, off + k, none⟩) hbr).trans y3; go_simp; (try with_reducible rfl))); (try simp only [Act.put, List.setIfInBounds_toArray, List.set_cons_zero, List.set_cons_succ])) | (apply ord_skip rfl (by rfl) (by rfl) (fun _ => hBe); (try simp only [Act.put, List.setIfInBounds_toArray, List.set_cons_zero, List.set_cons_succ])))
   refine ord_do rfl (by rfl) (by rfl) (fun K hK => ?_)
   go_simp
   refine (l10Size_any _ _ _ _ _ _ (hsl _ (hB0.trans (hBe.mono hB0.size))) hG).mono ?_
   rw [HN.out]
   rintro e w4 ⟨rfl, m4, hw4⟩
   replace hBe : Below wr.heap.size wr w4 := by rw [hw4]; exact below_drewN hBe m4
   clear hw4
   refine hK.out _ _ (fun _ => hBe) ?_
   (try simp only [Act.put, List.setIfInBounds_toArray, List.set_cons_zero, List.set_cons_succ])
   clear hK K
   repeat (first | (apply ord_tk rfl (by rfl) (by rfl) (by rfl); (focus (intro wx hSw; have r0 := (hSw.cell (p := ⟨w.heap.size, 0, none⟩) hwr).trans y0; have r1 := (hSw.cell (p := ⟨w.heap.size, 1, none⟩) hwr).trans y1; have r2 := (hSw.cell (p := ⟨w.heap.size, 2, none⟩) hwr).trans y2; have r3 := (hSw.cell (p := ⟨b, off + k, none⟩) hbr).trans y3; go_simp; (try with_reducible rfl))); (try simp only [Act.put, List.setIfInBounds_toArray, List.set_cons_zero, List.set_cons_succ])) | (apply ord_skip rfl (by rfl) (by rfl) (fun _ => hBe); (try simp only [Act.put, List.setIfInBounds_toArray, List.set_cons_zero, List.set_cons_succ])))
   refine ord_do rfl (by rfl) (by rfl) (fun K hK => ?_)
   go_simp
   refine (l11Members_any _ vs.length m N16 hm6).mono ?_
   rintro e w5 ⟨v5, rfl, hV5, hb5⟩
   have hz5 := hBe.size
   replace hBe := hBe.trans (hb5.mono hBe.size)
   refine hK.out _ _ (fun _ => hBe) ?_
   (try simp only [Act.put, List.setIfInBounds_toArray, List.set_cons_zero, List.set_cons_succ])
   clear hK K
   obtain ⟨mA, mc, rfl, hSm⟩ := hV5.sl HRi.out
   repeat (first | (apply ord_tk rfl (by rfl) (by rfl) (by rfl); (focus (intro wx hSw; have r0 := (hSw.cell (p := ⟨w.heap.size, 0, none⟩) hwr).trans y0; have r1 := (hSw.cell (p := ⟨w.heap.size, 1, none⟩) hwr).trans y1; have r2 := (hSw.cell (p := ⟨w.heap.size, 2, none⟩) hwr).trans y2; have r3 := (hSw.cell (p := ⟨b, off + k, none⟩) hbr).trans y3; go_simp; (try with_reducible rfl))); (try simp only [Act.put, List.setIfInBounds_toArray, List.set_cons_zero, List.set_cons_succ])) | (apply ord_skip rfl (by rfl) (by rfl) (fun _ => hBe); (try simp only [Act.put, List.setIfInBounds_toArray, List.set_cons_zero, List.set_cons_succ])))
   refine ord_do rfl (by rfl) (by rfl) (fun K hK => ?_)
   go_simp
   refine hK.out _ _ (fun h => absurd h (by omega)) ?_
   (try simp only [Act.put, List.setIfInBounds_toArray, List.set_cons_zero, List.set_cons_succ])
   clear hK K
   refine ord_nil ?_
   replace hO := hO.below hBe
   have c3 := (hBe.cell (p := ⟨b, off + k, none⟩) hbr).trans y3
   have d0 := (hBe.cell (p := ⟨w.heap.size, 0, none⟩) hwr).trans y0
   have d1 := (hBe.cell (p := ⟨w.heap.size, 1, none⟩) hwr).trans y1
   have d2 := (hBe.cell (p := ⟨w.heap.size, 2, none⟩) hwr).trans y2
   have hbz := Nat.lt_of_lt_of_le hbr hBe.size
   replace hBe := hB0.trans (hBe.mono hB0.size)
   clear hB0 y0 y1 y2 y3 hb5 hV5 hz5
   go_wp2_with fail
   clear d0 d1 d2
   refine (l11Orthogonal_any _ _ _ _ os D _ _ _ vs _ _ _ (mems vs.length m) (hsl _ hBe) (hsv _ hBe) hSm (by omega) hok HRp.out).mono ?_
   rintro e w6 ⟨v6, rfl, hV6, hb6⟩
   obtain ⟨nA, nc, rfl, hSn⟩ := hV6.sl HOR.out
   replace hO := hO.below hb6
   replace c3 := (hb6.cell (p := ⟨b, off + k, none⟩) hbz).trans c3
   replace hBe := hBe.trans (hb6.mono hBe.size)
   replace hSm := (hSm.below hb6).more hb6.size
   clear hb6 hV6
   go_wp2_with fail
   refine (l01Same_any _ _ _ _ _ _ _ _ _ _ _ hSn hSm (by omega)).mono ?_
   rw [HPP.out]
   rintro e w7 ⟨rfl, m7, rfl⟩
   replace hO := hO.drewN m7
   replace hBe := below_drewN hBe m7
   replace c3 : (w6.drewN m7).cell? ⟨b, off + k, none⟩ = some (.int .i64 (m : Int)) := c3
   clear hSn hSm
   cases p with
   | true =>
    have hF := hide (HF1.out rfl)
    clear HF1 HF0
    go_wp2_with (at_builtin; refine list_push _ rfl _ _ rfl w3.heap.size _ _ rfl (hO.alloc _) (m : Int) _ _ rfl (Blk.new _ _ _) hfl (by have := hBe.size; simp at this ⊢; omega) (by simp) ?_; intro g' cap' w8 hP4)
    go_roundw
    case rel => exact ⟨k + 1, _, by omega, by go_num, rfl, by rw [hF.out]; exact hP4.own, (hBe.alloc hBe.size _).trans (hP4.below (hO.alloc _) (by have := hBe.size; simp at this ⊢; omega))⟩
    case measure => simp [intOf] <;> omega
   | false =>
    have hF := hide (HF0.out rfl)
    clear HF1 HF0
    go_wp2_with fail
    go_roundw
    case rel => exact ⟨k + 1, _, by omega, by go_num, rfl, by rw [hF.out]; exact hO, hBe⟩
    case measure => simp [intOf] <;> omega
  ·obtain rfl : k = al := by omega
   rw [List.take_of_length_le (by rw [← HAL.out]; exact Nat.le_refl _), ← HF.out] at hO
   go_wp2_with fail
   go_ret
   exact ⟨_, rfl, hO.less (Nat.le_of_lt hz3), hb0.trans (hBe.mono (Nat.le_of_lt hz3))⟩
end Go.Proofs.YtbpihnpakolooaaGreatDoor
