
/- Helpers of the laws on subgroups: hasInt, sum; metrics and lists in memory; ranges of the results. The table of math/bits out of a card's condition. The walk of the law FnSubgroups. -/
import Derived.Test.YtbpihnpakolooaaGreatDoorDla
import Derived.Test.YtbpihnpakolooaaGreatDoorD5a
import Derived.Test.YtbpihnpakolooaaGreatDoorSBa
import Derived.Test.YtbpihnpakolooaaGreatDoorMWz
import Derived.WalkLawsBesides
import Derived.Test.YtbpihnpakolooaaGreatDoorRows
import Derived.Test.YtbpihnpakolooaaGreatDoorMW1
import Derived.Lib.LaidTab
import Derived.LaidMore
import Derived.Deep.DeepCutAuto
namespace Go.Proofs.YtbpihnpakolooaaGreatDoor
open Go Go.RowKit Grp
set_option linter.unusedSimpArgs false
set_option linter.unusedVariables false
theorem hasInt_any (w : World) (B : Nat) (A : Option Addr) (n c : Nat) (xs : List Int) (x : Int) (h : Sl w B A n c xs) (hn : n ≤ 1048576) :
    Calls Tryz.prog 23 #[.slice A n c, .int .i64 x] w (Qt w (.bool (decide (x ∈ xs)))) := by
  obtain rfl := h.len
  go_enter Tryz.func23, Tryz.ntmps23
  go_wp2
  go_loopw [5] (fun i wr => ∃ k : Nat, k ≤ xs.length ∧ i = .int .i64 k ∧ (∀ j, j < k → gi xs j ≠ x) ∧ ∃ m, w.drewN m = wr) (fun i _ => xs.length - (intOf i).toNat)
  case atStart => exact ⟨0, by omega, rfl, fun j hj => by omega, 0, rfl⟩
  case round =>
    obtain ⟨k, hk, rfl, hpre, m, rfl⟩ := hrel
    have hP := hide hpre
    clear hpre
    by_cases hlt : k < xs.length
    · obtain ⟨b, off, rfl, hb, hc⟩ := h.at_ (by omega)
      have c1 := hc k hlt
      have hM := hide (gi_mem hlt)
      clear hc
      obtain ⟨y, hy⟩ : ∃ y, gi xs k = y := ⟨_, rfl⟩
      rw [hy] at c1 hM
      have hY := hide hy
      clear hy
      by_cases hq : y = x
      · subst hq
        have hr := hide (show decide (y ∈ xs) = true from decide_eq_true hM.out)
        go_wp2
        go_ret
        exact Qt.d1 (bool_eq hr.out.symm)
      · go_wp2
        go_roundw
        case rel => exact ⟨k + 1, by omega, by go_num, fun j hj => by
          rcases Nat.lt_or_ge j k with h | h
          · exact hP.out j h
          · obtain rfl : j = k := by omega
            rw [hY.out]; exact hq, _, rfl⟩
        case measure => simp [intOf]; omega
    · have hr := hide (show decide (x ∈ xs) = false from decide_eq_false fun hm => by
        obtain ⟨j, hj, e⟩ := List.getElem_of_mem hm
        refine hP.out j (by omega) ?_
        unfold gi; rw [List.getD_eq_getElem?_getD, List.getElem?_eq_getElem hj]; exact e)
      go_wp2
      go_ret
      exact Qt.d1 (bool_eq hr.out.symm)
/-- A metric lies in block M; what lay before the law lies as it lay. -/
structure GM (w : World) (M : Nat) (A1 : Option Addr) (c1 : Nat) (A2 : Option Addr) (c2 : Nat) (os : List Int) (q : Int) (vs : List Int) (wx : World) : Prop where
  b : Blk wx M 26 #[.slice A1 os.length c1, .int .i64 q, .slice A2 vs.length c2]
  s1 : Sl wx wx.heap.size A1 os.length c1 os
  s2 : Sl wx wx.heap.size A2 vs.length c2 vs
  kk : Below w.heap.size w wx
/-- The same, and a list. -/
structure GX (w : World) (M : Nat) (A1 : Option Addr) (c1 : Nat) (A2 : Option Addr) (c2 : Nat) (L : Option Addr) (lc : Nat) (os : List Int) (q : Int) (vs xs : List Int) (wx : World) : Prop where
  m : GM w M A1 c1 A2 c2 os q vs wx
  s3 : Sl wx wx.heap.size L xs.length lc xs
theorem Sl.mov {wx wy : World} {A : Option Addr} {n c : Nat} {xs : List Int} (h : Sl wx wx.heap.size A n c xs) (hb : Below wx.heap.size wx wy) : Sl wy wy.heap.size A n c xs := (h.below hb).more hb.size
section
variable {w wx wy : World} {M : Nat} {A1 A2 L : Option Addr} {c1 c2 lc : Nat} {os vs xs : List Int} {q : Int}
theorem GM.all (h : GM w M A1 c1 A2 c2 os q vs wx) (hb : Below wx.heap.size wx wy) : GM w M A1 c1 A2 c2 os q vs wy :=
  ⟨h.b.all hb, h.s1.mov hb, h.s2.mov hb, h.kk.trans (hb.mono h.kk.size)⟩
theorem GX.all (h : GX w M A1 c1 A2 c2 L lc os q vs xs wx) (hb : Below wx.heap.size wx wy) : GX w M A1 c1 A2 c2 L lc os q vs xs wy := ⟨h.m.all hb, h.s3.mov hb⟩
theorem GM.new (s1 : Sl wx wx.heap.size A1 os.length c1 os) (s2 : Sl wx wx.heap.size A2 vs.length c2 vs) (kk : Below w.heap.size w wx) :
    GM w wx.heap.size A1 c1 A2 c2 os q vs (wx.alloc (.cells #[.slice A1 os.length c1, .int .i64 q, .slice A2 vs.length c2] 26)) :=
  have hb : Below wx.heap.size wx (wx.alloc (.cells #[.slice A1 os.length c1, .int .i64 q, .slice A2 vs.length c2] 26)) := (Below.refl _ _).alloc (Nat.le_refl _) _
  ⟨Blk.new _ _ _, s1.mov hb, s2.mov hb, kk.trans (hb.mono kk.size)⟩
theorem GX.new (s1 : Sl wx wx.heap.size A1 os.length c1 os) (s2 : Sl wx wx.heap.size A2 vs.length c2 vs) (s3 : Sl wx wx.heap.size L xs.length lc xs) (kk : Below w.heap.size w wx) :
    GX w wx.heap.size A1 c1 A2 c2 L lc os q vs xs (wx.alloc (.cells #[.slice A1 os.length c1, .int .i64 q, .slice A2 vs.length c2] 26)) :=
  ⟨GM.new s1 s2 kk, s3.mov ((Below.refl _ _).alloc (Nat.le_refl _) _)⟩
end
theorem rng_i64 {xs : List Int} {n : Nat} (hn : n ≤ 1048576) (h : ∀ x ∈ xs, 0 ≤ x ∧ x < n) : ∀ x ∈ xs, i64ok x := fun x hx => by have := h x hx; exact ⟨by omega, by omega⟩
theorem ortL_rng (os : List Int) (D : Int) (vs xs : List Int) (k : Nat) : ∀ x ∈ ortL os D vs xs k, 0 ≤ x ∧ x < k := fun x hx => by
  unfold ortL at hx
  obtain ⟨y, hy, rfl⟩ := List.mem_map.1 hx
  have := List.mem_range.1 (List.mem_filter.1 hy).1
  omega
theorem ogL_rng (os : List Int) (D : Int) (vs xs : List Int) (hv : vs.length ≤ 64) : ∀ x ∈ ogL os D vs xs, i64ok x := by
  unfold ogL
  split
  · exact rng_i64 (by omega) (ortL_rng os D vs xs vs.length)
  · intro x hx; cases hx
theorem ogL_len (os : List Int) (D : Int) (vs xs : List Int) (hv : vs.length ≤ 64) : (ogL os D vs xs).length ≤ 64 := by
  unfold ogL
  split
  · exact Nat.le_trans (ortL_len _ _ _ _ _) hv
  · simp
theorem sgfL_ok (os : List Int) (D : Int) (vs xs : List Int) (hv : vs.length ≤ 64) : (∀ x ∈ sgfL os D vs xs, i64ok x) ∧ (sgfL os D vs xs).length ≤ 64 := by
  unfold sgfL
  split
  · exact ⟨fun x hx => by have := mem_genL.1 hx; exact ⟨by omega, by omega⟩, Nat.le_trans (genL_len _ _ _) hv⟩
  · exact ⟨(fun x hx => absurd hx (by simp)), by simp⟩
theorem smK_ok (os : List Int) (D : Int) (vs : List Int) : (∀ x ∈ ifM os D vs (sgK os vs.length), i64ok x) ∧ (ifM os D vs (sgK os vs.length)).length ≤ 65536 := by
  refine ⟨ifM_all fun _ _ h => h, ?_⟩
  unfold ifM
  split
  · rename_i h
    exact sgK_len ((isM_iff.1 h).ok.lt)
  · simp
theorem tb_of_laid {W : World} (h : laidMetH Tryz.prog [("math/bits.deBruijn64tab", Rows.laid_math_bits_deBruijn64tab)] W) : Tb W := by
  rw [MakeChecks.laidMetH_plain _ _ _ (by kernel_rfl)] at h
  have hT := Lib.tabIs_of_head (P := Tryz.prog) (W := W) (name := "math/bits.deBruijn64tab") (k := .u8) (zs := Lib.deBruijn64tab.map fun (n : Nat) => (n : Int)) (rest := []) (g := 0) (t := 134) (e := 5) (n := 64)
    (by kernel_rfl) (by kernel_rfl) Tryz.underlying134 Tryz.underlying5 (by kernel_rfl) (by kernel_rfl) h
  have hc : ∀ i, i < 64 → W.cell? ⟨0, i, none⟩ = some (.int .u8 ((Lib.deBruijn64tab.map fun (n : Nat) => (n : Int)).getD i 0)) := fun i hi =>
    hT.cell (by kernel_rfl) i (by simpa [Lib.deBruijn64tab] using hi)
  refine ⟨?_, fun j hj => ?_⟩
  · have h0 := hc 0 (by omega)
    rcases Nat.lt_or_ge 0 W.heap.size with hl | hl
    · exact hl
    · rw [World.cell?, Array.getElem?_eq_none hl] at h0
      cases h0
  · have h0 := hc j (by simpa [Lib.deBruijn64tab] using hj)
    rw [h0]
    simp only [List.getD_eq_getElem?_getD, List.getElem?_map, List.getElem?_eq_getElem hj, Option.map_some, Option.getD_some]
set_option maxRecDepth 100000 in
set_option maxHeartbeats 8000000 in
theorem law_Subgroups {w : World} (hT : Tb w) (A : Option Addr) (n c : Nat) (bs : List Int) (h : BlIn w A n c bs) : Calls Tryz.prog 5 #[.slice A n c] w (Re w (.bool true)) := by
  by_cases hn0 : 4096 < n
  · have hd : decide (4096 < (n : Int)) = true := decide_eq_true (by omega)
    have Hd := hide hd
    clear hd
    go_enter Tryz.func5, Tryz.ntmps5
    go_wp2_with fail
    refine (big_any _ A n c).mono ?_
    rintro e w1 ⟨rfl, m, rfl⟩
    rw [Hd.out]
    go_wp2
    go_ret
    exact ⟨rfl, (by repeat (first | assumption | exact Below.refl _ _ | apply below_drewN | apply Below.drew | apply Below.alloc | apply Below.setCell | omega | (focus (simp; done)) | (focus (simp; omega))))⟩
  · have hn : n ≤ 4096 := by omega
    have hd : decide (4096 < (n : Int)) = false := decide_eq_false (by omega)
    have Hd := hide hd
    clear hd
    have hS := h.sl
    go_enter Tryz.func5, Tryz.ntmps5
    go_wp2_with fail
    refine (big_any _ A n c).mono ?_
    rintro e w1 ⟨rfl, m, rfl⟩
    rw [Hd.out]
    have kk : Below w.heap.size w (w.drewN m) := below_drewN (Below.refl _ _) _
    obtain ⟨w1, hw1⟩ : ∃ w1, w.drewN m = w1 := ⟨_, rfl⟩
    rw [hw1] at kk ⊢
    clear hw1
    have hsz := kk.size
    have hb1 : SlB w1 w1.heap.size A n c bs := ⟨hS.len, hS.cap, hS.rng, fun h0 => by
      obtain ⟨b, off, e, hlt, hc⟩ := hS.at_ h0
      exact ⟨b, off, e, by omega, fun k hk => (kk.cell (p := ⟨b, off + k, none⟩) hlt).trans (hc k hk)⟩⟩
    go_wp2_with fail
    refine (drawOrt_any w1 A n c bs hb1 hn).mono ?_
    rintro e w2 ⟨A1, c1, A2, c2, os, q, vs, L, lc, xs, rfl, hG, hx, s1, s2, s3, -, hr, hb2⟩
    have kk2 := kk.trans (hb2.mono hsz)
    have hX := GX.new (q := q) s1 s2 s3 kk2
    have lo := hG.o
    have lv := hG.v
    clear s1 s2 s3 hb2
    obtain ⟨w3, hw3⟩ : ∃ w3, w2.alloc (.cells #[.slice A1 os.length c1, .int .i64 q, .slice A2 vs.length c2] 26) = w3 := ⟨_, rfl⟩
    rw [hw3] at hX
    have hOr := hide (ogL_rng os q vs xs lv)
    have hOl := hide (ogL_len os q vs xs lv)
    have hMb := hX.m.b
    have x0 := hMb.cell 0
    have x1 := hMb.cell 1
    have x2 := hMb.cell 2
    go_wp2_with fail
    clear hMb x0 x1 x2
    refine (impl_Ort_any _ _ _ _ os q _ _ _ vs _ _ _ xs hX.m.s1 hX.m.s2 hX.s3 (by omega) (by omega) (by omega)).mono ?_
    rintro e wn ⟨v1, rfl, o1, hbn⟩
    replace hX := hX.all hbn
    obtain ⟨R1, d1, rfl, sO⟩ := o1.sl hOr.out
    clear hw3 o1 hbn
    have hMb := hX.m.b
    have x0 := hMb.cell 0
    have x1 := hMb.cell 1
    have x2 := hMb.cell 2
    go_wp2_with fail
    clear hMb x0 x1 x2
    refine (spec_Ort_any _ _ _ _ os q _ _ _ vs _ _ _ xs hX.m.s1 hX.m.s2 hX.s3 (by omega) (by omega) (by omega)).mono ?_
    rintro e wn ⟨v1, rfl, o1, hbn⟩
    replace hX := hX.all hbn
    obtain ⟨R2, d2, rfl, sP⟩ := o1.sl hOr.out
    replace sO := sO.mov hbn
    clear o1 hbn
    have hMb := hX.m.b
    have x0 := hMb.cell 0
    have x1 := hMb.cell 1
    have x2 := hMb.cell 2
    go_wp2_with fail
    clear hMb x0 x1 x2
    refine (impl_Sub_any _ _ _ _ os q _ _ _ vs _ _ _ xs hX.m.s1 hX.m.s2 hX.s3 (by omega) (by omega) (by omega)).mono ?_
    rintro e wn ⟨rfl, hbn⟩
    replace hX := hX.all hbn
    replace sO := sO.mov hbn
    replace sP := sP.mov hbn
    clear hbn
    have hMb := hX.m.b
    have x0 := hMb.cell 0
    have x1 := hMb.cell 1
    have x2 := hMb.cell 2
    go_wp2_with fail
    clear hMb x0 x1 x2
    refine (spec_Sub_any _ _ _ _ os q _ _ _ vs _ _ _ xs hX.m.s1 hX.m.s2 hX.s3 (by omega) (by omega) (by omega)).mono ?_
    rintro e wn ⟨rfl, hbn⟩
    replace hX := hX.all hbn
    replace sO := sO.mov hbn
    replace sP := sP.mov hbn
    clear hbn
    have hOl6 : (ogL os q vs xs).length ≤ 64 := hOl.out
    have hB1 : codeL os q vs xs = 0 → sgB os q vs xs = decide (codeS os q vs xs = 0) := sg_ok
    have hB2 : codeL os q vs xs ≠ 0 → codeS os q vs xs ≠ 0 := fun h h0 => h (by
      unfold codeS at h0
      split at h0
      · assumption
      · exact absurd h0 h)
    have hB3 := hide (show codeS os q vs xs = 0 → IsM os q vs ∧ IsLst (prodL os) xs ∧ SbM os vs xs ∧ ogL os q vs xs = ortL os q vs xs vs.length from fun h => ⟨(sbm_of h).1, (sbm_of h).2.1, (sbm_of h).2.2, by unfold ogL; rw [if_pos h]⟩)
    obtain ⟨K1, hK1⟩ : ∃ k, codeS os q vs xs = k := ⟨_, rfl⟩
    obtain ⟨K3, hK3⟩ : ∃ k, codeL os q vs xs = k := ⟨_, rfl⟩
    obtain ⟨Bq, hBq⟩ : ∃ k, sgB os q vs xs = k := ⟨_, rfl⟩
    obtain ⟨O, hO⟩ : ∃ k, ogL os q vs xs = k := ⟨_, rfl⟩
    rw [hK1, hK3, hBq, hO]
    rw [hK1, hK3, hBq] at hB1
    rw [hK1, hK3] at hB2
    rw [hO] at hOl6 sO sP
    have hOrO : ∀ x ∈ O, i64ok x := hO ▸ hOr.out
    have HK1 := hide hK1
    have HK3 := hide hK3
    have HBq := hide hBq
    have HO := hide hO
    have HB1 := hide hB1
    have HB2 := hide hB2
    clear hK1 hK3 hBq hO hB1 hB2 hOr hOl
    obtain ⟨M, hM⟩ : ∃ M, w2.heap.size = M := ⟨_, rfl⟩
    rw [hM] at hX
    go_upto_region 8 with fail
    clear hM
    go_cut [95] (fun v wx => v = .bool false ∧ GX w M A1 c1 A2 c2 L lc os q vs xs wx ∧ Sl wx wx.heap.size R1 O.length d1 O)
    case first =>
      by_cases h3 : K3 = 0
      · have hBq := HB1.out h3
        by_cases h1 : K1 = 0
        · obtain rfl : Bq = true := by rw [hBq]; exact decide_eq_true h1
          subst h3 h1
          clear hBq
          go_wp2_with fail
          refine (likeInts_any _ _ _ _ _ _ _ _ _ _ _ sO sP (by omega)).mono ?_
          rintro e wl ⟨rfl, dm, hdm⟩
          have hbl : Below wn.heap.size wn wl := hdm ▸ below_drewN (Below.refl _ _) _
          clear hdm
          simp only [beq_self_eq_true]
          go_wp2_with fail
          go_meet
          exact ⟨rfl, hX.all hbl, sO.mov hbl⟩
        · obtain rfl : Bq = false := by rw [hBq]; exact decide_eq_false h1
          have h1b : (K1 == 0) = false := beq_eq_false_iff_ne.2 h1
          subst h3
          clear hBq
          go_wp2_with fail
          refine (likeInts_any _ _ _ _ _ _ _ _ _ _ _ sO sP (by omega)).mono ?_
          rintro e wl ⟨rfl, dm, hdm⟩
          have hbl : Below wn.heap.size wn wl := hdm ▸ below_drewN (Below.refl _ _) _
          clear hdm
          simp only [beq_self_eq_true]
          go_wp2_with fail
          go_meet
          exact ⟨rfl, hX.all hbl, sO.mov hbl⟩
      · have h1 := HB2.out h3
        have h3b : (K3 == 0) = false := beq_eq_false_iff_ne.2 h3
        have h1b : (K1 == 0) = false := beq_eq_false_iff_ne.2 h1
        go_wp2_with fail
        refine (likeInts_any _ _ _ _ _ _ _ _ _ _ _ sO sP (by omega)).mono ?_
        rintro e wl ⟨rfl, dm, hdm⟩
        have hbl : Below wn.heap.size wn wl := hdm ▸ below_drewN (Below.refl _ _) _
        clear hdm
        simp only [beq_self_eq_true]
        go_wp2_with fail
        go_meet
        exact ⟨rfl, hX.all hbl, sO.mov hbl⟩
    case rest =>
      obtain ⟨rfl, hX, sO⟩ := hcut
      clear sP
      go_upto_if 97 with fail
      go_cut [] (fun wx => Below w.heap.size w wx)
      case first =>
        by_cases h1 : K1 = 0
        · subst h1
          obtain ⟨IM, IL, SM, hOe⟩ := hB3.out HK1.out
          have hOo : ortL os q vs xs vs.length = O := hOe.symm.trans HO.out
          have hoc := ort_code IM SM
          have hOs := ort_sb IM SM
          have hob := ort_ort IM SM
          have hnd0 := (fun hn : Ndg os q vs => (⟨ort_size IM SM hn, ort_back IM SM hn⟩ : _ ∧ _))
          rw [hOo] at hoc hOs hob
          rw [hOo] at hnd0
          have Hnd := hide hnd0
          clear hnd0
          have hcx := codeL_t IM IL
          have hgs := gen_self IM IL SM
          have him : isM os q vs = true := isM_t IM
          have hcm := codeM_t him
          have hik : ifM os q vs (sgK os vs.length) = sgK os vs.length := by unfold ifM; rw [if_pos him]
          have hogO : ogL os q vs O = ortL os q vs O vs.length := by unfold ogL; rw [if_pos hoc.2.1]
          have hma := msk_all IM SM
          have hsk := smK_ok os q vs
          rw [hik] at hsk
          have h16 : vs.length ≤ 16 := IM.ok.lt
          have hBr := ogL_rng os q vs O lv
          have hBl := ogL_len os q vs O lv
          rw [hogO] at hBr hBl
          have HX := hide (fun x hx => SM.rng x hx)
          have Hnd' := hide (ndgM_iff IM)
          have hlO : O.length ≤ 64 := hOl6
          obtain ⟨Hoc, Hcx, Hgs, Hcm, Hik, HogO, Hob, Hma⟩ := show Hid _ ∧ Hid _ ∧ Hid _ ∧ Hid _ ∧ Hid _ ∧ Hid _ ∧ Hid _ ∧ Hid _ from ⟨hide hoc, hide hcx, hide hgs, hide hcm, hide hik, hide hogO, hide hob, hide hma⟩
          clear hoc hcx hgs hcm hik hogO hob hma hOo hOe hOs him SM IL
          have IMH := hide IM
          clear IM
          have hMb := hX.m.b
          have x0 := hMb.cell 0
          have x1 := hMb.cell 1
          have x2 := hMb.cell 2
          go_wp2_with fail
          clear hMb x0 x1 x2
          refine (impl_Sub_any _ _ _ _ os q _ _ _ vs _ _ _ O hX.m.s1 hX.m.s2 sO (by omega) (by omega) (by omega)).mono ?_
          rintro e wn ⟨rfl, hbn⟩
          replace hX := hX.all hbn
          rw [Hoc.out.2.2, Hoc.out.1]
          replace sO := sO.mov hbn
          clear hbn
          have hMb := hX.m.b
          have x0 := hMb.cell 0
          have x1 := hMb.cell 1
          have x2 := hMb.cell 2
          go_wp2_with fail
          clear hMb x0 x1 x2
          refine (impl_Gen_any _ _ _ _ os q _ _ _ vs _ _ _ xs hX.m.s1 hX.m.s2 hX.s3 (by omega) (by omega) (by omega)).mono ?_
          rintro e wn ⟨v1, rfl, o1, hbn⟩
          replace hX := hX.all hbn
          rw [Hcx.out]
          rw [Hgs.out] at o1
          obtain ⟨R3, d3, rfl, sW⟩ := o1.sl hr
          replace sO := sO.mov hbn
          clear hbn o1
          have hMb := hX.m.b
          have x0 := hMb.cell 0
          have x1 := hMb.cell 1
          have x2 := hMb.cell 2
          go_wp2_with fail
          clear hMb x0 x1 x2
          refine (impl_SM_any _ _ _ _ os q _ _ _ vs hX.m.s1 hX.m.s2 (by omega) (by omega) (hT.bel hX.m.kk)).mono ?_
          rintro e wn ⟨v1, rfl, o1, hbn⟩
          replace hX := hX.all hbn
          rw [Hcm.out]
          rw [Hik.out] at o1
          obtain ⟨R4, d4, rfl, sK⟩ := o1.sl hsk.1
          replace sO := sO.mov hbn
          replace sW := sW.mov hbn
          clear hbn o1
          have hMb := hX.m.b
          have x0 := hMb.cell 0
          have x1 := hMb.cell 1
          have x2 := hMb.cell 2
          go_wp2_with fail
          clear hMb x0 x1 x2
          refine (impl_Ort_any _ _ _ _ os q _ _ _ vs _ _ _ O hX.m.s1 hX.m.s2 sO (by omega) (by omega) (by omega)).mono ?_
          rintro e wn ⟨v1, rfl, o1, hbn⟩
          replace hX := hX.all hbn
          rw [Hoc.out.2.1]
          rw [HogO.out] at o1
          obtain ⟨R5, d5, rfl, sB⟩ := o1.sl hBr
          replace sO := sO.mov hbn
          replace sW := sW.mov hbn
          replace sK := sK.mov hbn
          clear hbn o1
          have hMb := hX.m.b
          have x0 := hMb.cell 0
          have x1 := hMb.cell 1
          have x2 := hMb.cell 2
          go_wp2_with fail
          clear hMb x0 x1 x2
          refine (impl_Ndg_any _ _ _ _ os q _ _ _ vs hX.m.s1 hX.m.s2 (by omega) (by omega)).mono ?_
          rintro e wn ⟨rfl, hbn⟩
          replace hX := hX.all hbn
          rw [Hcm.out]
          replace sO := sO.mov hbn
          replace sW := sW.mov hbn
          replace sK := sK.mov hbn
          replace sB := sB.mov hbn
          clear hbn
          have hKl : (sgK os vs.length).length ≤ 65536 := hsk.2
          clear hsk hBr
          obtain ⟨Ms, hMs⟩ : ∃ k, sgK os vs.length = k := ⟨_, rfl⟩
          obtain ⟨Bk, hBk⟩ : ∃ k, ortL os q vs O vs.length = k := ⟨_, rfl⟩
          obtain ⟨bN, hbN⟩ : ∃ k, ndgM os q vs = k := ⟨_, rfl⟩
          rw [hMs] at sK hKl Hma
          rw [hBk] at sB hBl Hob
          rw [hMs, hBk, hbN]
          have HMs := hide hMs
          have HBk := hide hBk
          have HbN := hide hbN
          clear hMs hBk hbN
          go_wp2_with fail
          refine (likeInts_any _ _ _ _ _ _ _ _ _ _ _ sW hX.s3 (by omega)).mono ?_
          rintro e wl ⟨rfl, dm, hdm⟩
          have hbl : Below wn.heap.size wn wl := hdm ▸ below_drewN (Below.refl _ _) _
          clear hdm
          replace hX := hX.all hbl
          replace sO := sO.mov hbl
          replace sK := sK.mov hbl
          replace sB := sB.mov hbl
          clear hbl sW
          simp only [beq_self_eq_true]
          go_wp2_with fail
          have HK := hide (fun k => msk_lt (n := 16) (xs := xs.take k) fun x hm => by have := HX.out x (List.mem_of_mem_take hm); omega)
          go_loopw [23, 24] (fun mk i wr => ∃ k : Nat, k ≤ xs.length ∧ i = .int .i64 k ∧ mk = .int .i64 (msk (xs.take k) : Nat) ∧ GX w M A1 c1 A2 c2 L lc os q vs xs wr ∧ Sl wr wr.heap.size R1 O.length d1 O ∧ Sl wr wr.heap.size R4 Ms.length d4 Ms ∧ Sl wr wr.heap.size R5 Bk.length d5 Bk) (fun _ i _ => xs.length - (intOf i).toNat)
          case atStart => exact ⟨0, by omega, rfl, rfl, hX, sO, sK, sB⟩
          case round =>
            clear hX sO sK sB
            obtain ⟨k, hk, rfl, rfl, hX, sO, sK, sB⟩ := hrel
            by_cases hlt : k < xs.length
            · obtain ⟨b, off, rfl, hb, hc⟩ := hX.s3.at_ (by omega)
              have cx := hc k hlt
              have hcap := hX.s3.cap
              obtain ⟨r0, r1⟩ := HX.out _ (gi_mem hlt)
              have hm := HK.out k
              have hS := msk_snoc hlt
              have hIn := Hob.out _ (gi_mem hlt)
              obtain ⟨x, hxe⟩ := Int.eq_ofNat_of_zero_le r0
              rw [hxe] at cx r0 r1 hS hIn
              clear hxe
              obtain ⟨Mk, hMk⟩ : ∃ Mk, msk (xs.take k) = Mk := ⟨_, rfl⟩
              rw [hMk] at hm hS
              rw [Int.toNat_natCast] at hS
              have p1 := pow16k (x := x) (by omega)
              obtain ⟨P, hP⟩ : ∃ P : Nat, 2 ^ x = P := ⟨_, rfl⟩
              rw [hP] at p1 hS
              have e2 : ((2 : Int) ^ x) = (P : Int) := by rw [← hP]; exact (Int.natCast_pow 2 x).symm
              have hs : wrap64 ((2 : Int) ^ x) = (P : Int) := by rw [e2]; exact wrap64_ok _ ⟨by omega, by omega⟩
              have ho : bits .or .i64 (Mk : Int) (P : Int) = ((Mk ||| P : Nat) : Int) := or64 (Nat.lt_of_lt_of_le hm (by decide)) (Nat.lt_of_lt_of_le p1 (by decide))
              have hu : IntKind.u64.wrap (x : Int) = x := wraps63 _ (by omega) (by omega)
              have HS := hide hS
              have HIn := hide (decide_eq_true hIn)
              clear e2 hP hS hc hIn
              rw [hMk]
              clear hMk
              go_wp2_with fail
              refine (hasInt_any _ _ _ _ _ _ _ sB (by omega)).mono ?_
              rintro e wl ⟨rfl, dm, hdm⟩
              have hbl : Below wr.heap.size wr wl := hdm ▸ below_drewN (Below.refl _ _) _
              clear hdm
              rw [HIn.out]
              replace hX := hX.all hbl
              replace sO := sO.mov hbl
              replace sK := sK.mov hbl
              replace sB := sB.mov hbl
              clear hbl cx ho hs hu
              go_wp2_with fail
              go_roundw
              case rel => exact ⟨k + 1, by omega, by go_num, by rw [HS.out], hX, sO, sK, sB⟩
              case measure => simp [intOf] <;> omega
            · obtain rfl : k = xs.length := by omega
              rw [List.take_length]
              obtain ⟨mm, hmm⟩ : ∃ mm, msk xs = mm := ⟨_, rfl⟩
              rw [hmm] at Hma
              rw [hmm]
              have HIn := hide (decide_eq_true Hma.out)
              clear hmm
              go_wp2_with fail
              refine (hasInt_any _ _ _ _ _ _ _ sK (by omega)).mono ?_
              rintro e wl ⟨rfl, dm, hdm⟩
              have hbl : Below wr.heap.size wr wl := hdm ▸ below_drewN (Below.refl _ _) _
              clear hdm
              rw [HIn.out]
              replace hX := hX.all hbl
              replace sB := sB.mov hbl
              clear hbl
              cases bN with
              | false =>
                go_wp2_with fail
                go_meet
                exact hX.m.kk
              | true =>
                obtain ⟨hz, hbk⟩ := Hnd.out (Hnd'.out.1 HbN.out)
                have hBx := hide (show (Bk == xs) = true by rw [← HBk.out, hbk]; exact beq_self_eq_true _)
                have u1 : IntKind.i64.wrap ((xs.length : Int) * (O.length : Int)) = (vs.length : Int) := by
                  have e : (xs.length : Int) * (O.length : Int) = (vs.length : Int) := by rw [← hz, Int.natCast_mul, Int.mul_comm]
                  rw [e]
                  exact wr64 _ ⟨by omega, by omega⟩
                clear hz hbk
                have hMb := hX.m.b
                have x0 := hMb.cell 0
                have x1 := hMb.cell 1
                have x2 := hMb.cell 2
                go_wp2_with fail
                clear hMb x0 x1 x2 u1
                have wn := wl
                refine (likeInts_any _ _ _ _ _ _ _ _ _ _ _ sB hX.s3 (by omega)).mono ?_
                rintro e wm ⟨rfl, dm, hdm⟩
                have hbl : Below wl.heap.size wl wm := hdm ▸ below_drewN (Below.refl _ _) _
                clear hdm
                rw [hBx.out]
                replace hX := hX.all hbl
                clear hbl
                go_wp2_with fail
                go_meet
                exact hX.m.kk
        · go_wp2_with fail
          go_meet
          exact hX.m.kk
      case rest =>
        have kk := hcut
        clear hcut hX sO
        have hsz := kk.size
        have hb1 : SlB wc wc.heap.size A n c bs := ⟨hS.len, hS.cap, hS.rng, fun h0 => by
          obtain ⟨b, off, e, hlt, hc⟩ := hS.at_ h0
          exact ⟨b, off, e, by omega, fun k hk => (kk.cell (p := ⟨b, off + k, none⟩) hlt).trans (hc k hk)⟩⟩
        clear hx hOl6 hr
        go_wp2_with fail
        refine (drawFrom_any wc A n c bs hb1 hn).mono ?_
        rintro e w4 ⟨A1, c1, A2, c2, os, q, vs, L, lc, xs, rfl, hG, hx, s1, s2, s3, -, hr, hb2⟩
        have kk2 := kk.trans (hb2.mono hsz)
        have hX := GX.new (q := q) s1 s2 s3 kk2
        have lo := hG.o
        have lv := hG.v
        clear s1 s2 s3 hb2
        obtain ⟨w5, hw5⟩ : ∃ w5, w4.alloc (.cells #[.slice A1 os.length c1, .int .i64 q, .slice A2 vs.length c2] 26) = w5 := ⟨_, rfl⟩
        rw [hw5] at hX
        have hsg := sgfL_ok os q vs xs lv
        have hSr := hide hsg
        clear hsg
        have hMb := hX.m.b
        have x0 := hMb.cell 0
        have x1 := hMb.cell 1
        have x2 := hMb.cell 2
        go_wp2_with fail
        clear hMb x0 x1 x2
        refine (impl_Gen_any _ _ _ _ os q _ _ _ vs _ _ _ xs hX.m.s1 hX.m.s2 hX.s3 (by omega) (by omega) (by omega)).mono ?_
        rintro e wn ⟨v1, rfl, o1, hbn⟩
        replace hX := hX.all hbn
        obtain ⟨R1, d1, rfl, sO⟩ := o1.sl hSr.out.1
        clear hw5 o1 hbn
        have hMb := hX.m.b
        have x0 := hMb.cell 0
        have x1 := hMb.cell 1
        have x2 := hMb.cell 2
        go_wp2_with fail
        clear hMb x0 x1 x2
        refine (spec_Gen_any _ _ _ _ os q _ _ _ vs _ _ _ xs hX.m.s1 hX.m.s2 hX.s3 (by omega) (by omega) (by omega)).mono ?_
        rintro e wn ⟨v1, rfl, o1, hbn⟩
        replace hX := hX.all hbn
        obtain ⟨R2, d2, rfl, sP⟩ := o1.sl hSr.out.1
        replace sO := sO.mov hbn
        clear o1 hbn
        have hl6 : (sgfL os q vs xs).length ≤ 64 := hSr.out.2
        clear hSr
        obtain ⟨K9, hK9⟩ : ∃ k, codeL os q vs xs = k := ⟨_, rfl⟩
        obtain ⟨O, hO⟩ : ∃ k, sgfL os q vs xs = k := ⟨_, rfl⟩
        rw [hK9, hO]
        rw [hO] at hl6 sO sP
        clear hK9 hO
        go_wp2_with fail
        refine (likeInts_any _ _ _ _ _ _ _ _ _ _ _ sO sP (by omega)).mono ?_
        rintro e wl ⟨rfl, dm, hdm⟩
        have hbl : Below wn.heap.size wn wl := hdm ▸ below_drewN (Below.refl _ _) _
        clear hdm
        replace hX := hX.all hbl
        clear hbl sO sP
        simp only [beq_self_eq_true]
        have kk := hX.m.kk
        have hsz := kk.size
        have hb1 : SlB wl wl.heap.size A n c bs := ⟨hS.len, hS.cap, hS.rng, fun h0 => by
          obtain ⟨b, off, e, hlt, hc⟩ := hS.at_ h0
          exact ⟨b, off, e, by omega, fun k hk => (kk.cell (p := ⟨b, off + k, none⟩) hlt).trans (hc k hk)⟩⟩
        clear hX hx hr
        go_wp2_with fail
        refine (drawMasks_any wl A n c bs hb1 hn).mono ?_
        rintro e w6 ⟨A1, c1, A2, c2, os, q, vs, rfl, hG, s1, s2, hb2⟩
        have kk2 := kk.trans (hb2.mono hsz)
        have hM := GM.new (q := q) s1 s2 kk2
        have lo := hG.o
        have lv := hG.v
        clear s1 s2 hb2
        obtain ⟨w7, hw7⟩ : ∃ w7, w6.alloc (.cells #[.slice A1 os.length c1, .int .i64 q, .slice A2 vs.length c2] 26) = w7 := ⟨_, rfl⟩
        rw [hw7] at hM
        have hsk := hide (smK_ok os q vs)
        have hMb := hM.b
        have x0 := hMb.cell 0
        have x1 := hMb.cell 1
        have x2 := hMb.cell 2
        go_wp2_with fail
        clear hMb x0 x1 x2
        refine (impl_SM_any _ _ _ _ os q _ _ _ vs hM.s1 hM.s2 (by omega) (by omega) (hT.bel hM.kk)).mono ?_
        rintro e wn ⟨v1, rfl, o1, hbn⟩
        replace hM := hM.all hbn
        obtain ⟨R1, d1, rfl, sO⟩ := o1.sl hsk.out.1
        clear hw7 o1 hbn
        have hMb := hM.b
        have x0 := hMb.cell 0
        have x1 := hMb.cell 1
        have x2 := hMb.cell 2
        go_wp2_with fail
        clear hMb x0 x1 x2
        refine (spec_SM_any _ _ _ _ os q _ _ _ vs hM.s1 hM.s2 (by omega) (by omega)).mono ?_
        rintro e wn ⟨v1, rfl, o1, hbn⟩
        replace hM := hM.all hbn
        obtain ⟨R2, d2, rfl, sP⟩ := o1.sl hsk.out.1
        replace sO := sO.mov hbn
        clear o1 hbn
        have hl6 : (ifM os q vs (sgK os vs.length)).length ≤ 65536 := hsk.out.2
        clear hsk
        obtain ⟨K9, hK9⟩ : ∃ k, codeM os q vs = k := ⟨_, rfl⟩
        obtain ⟨O, hO⟩ : ∃ k, ifM os q vs (sgK os vs.length) = k := ⟨_, rfl⟩
        rw [hK9, hO]
        rw [hO] at hl6 sO sP
        clear hK9 hO
        go_wp2_with fail
        refine (likeInts_any _ _ _ _ _ _ _ _ _ _ _ sO sP (by omega)).mono ?_
        rintro e wl ⟨rfl, dm, hdm⟩
        have hbl : Below wn.heap.size wn wl := hdm ▸ below_drewN (Below.refl _ _) _
        clear hdm
        replace hM := hM.all hbl
        simp only [beq_self_eq_true]
        go_wp2_with fail
        go_ret
        exact ⟨rfl, hM.kk⟩
end Go.Proofs.YtbpihnpakolooaaGreatDoor
