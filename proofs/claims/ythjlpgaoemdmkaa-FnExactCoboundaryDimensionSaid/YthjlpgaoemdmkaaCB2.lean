
/- The walk of cocycleBy over a closure. -/
import Derived.Test.YthjlpgaoemdmkaaCB1
import Derived.Test.YthjlpgaoemdmkaaKC
import Derived.Test.YthjlpgaoemdmkaaCI2
import Derived.Test.YthjlpgaoemdmkaaC2
namespace Go.Proofs.Ythjlpgaoemdmkaa
open Go Go.RowKit Grp
set_option linter.unusedSimpArgs false
set_option linter.unusedVariables false
set_option maxRecDepth 100000

/-- A cochain under construction: its struct in block g, the result's slot r; S: all of it lies below S. -/
structure CBy (w : World) (r g : Nat) (vo : Value) (os : List Int) (M : Int) (vv : Value) (xs : Tb) (wr : World) : Prop where
  res : Blk wr r 25 #[.slice none 0 0, .int .i64 0, .slice none 0 0]
  out : Blk wr g 25 #[vo, .int .i64 M, vv]
  ords : E1 wr vo os (fun b => r < b ∧ b < g)
  vals : Grow E2 35 (g + 1) wr vv xs
  lo : w.heap.size ≤ r
  rg : r < g
  below : Below w.heap.size w wr
theorem CBy.bel {w wr w' : World} {r g : Nat} {vo : Value} {os : List Int} {M : Int} {vv : Value} {xs : Tb} (h : CBy w r g vo os M vv xs wr) (hb : Below wr.heap.size wr w') : CBy w r g vo os M vv xs w' :=
  ⟨h.res.all hb, h.out.all hb, E1.below h.ords hb, h.vals.bel kp2 hb, h.lo, h.rg, h.below.trans (hb.mono h.below.size)⟩
theorem CBy.next {w wr w4 w' : World} {r g : Nat} {vo : Value} {os : List Int} {M : Int} {vv v2 : Value} {xs ys : Tb} (h : CBy w r g vo os M vv xs wr) (hb : Below wr.heap.size wr w4) (hB : Below (g + 1) w4 w') (hG : Grow E2 35 (g + 1) w' v2 ys) :
    CBy w r g vo os M v2 ys (w'.setCell ⟨g, 2, none⟩ v2) := by
  have h4 := h.bel hb
  have hgl := h4.out.lt
  have hrl := h4.res.lt
  have hsz := hB.size
  have out' : Blk w' g 25 #[vo, .int .i64 M, vv] := h4.out.below hB (by omega)
  have res' : Blk w' r 25 #[.slice none 0 0, .int .i64 0, .slice none 0 0] := h4.res.below hB (by have := h.rg; omega)
  have ords' : E1 w' vo os (fun b => r < b ∧ b < g) := kp1 _ _ _ _ _ h4.ords (fun b hb' => hB.block b (by have := hb'.2; omega)) hsz
  have hw : Wr w' (w'.setCell ⟨g, 2, none⟩ v2) (fun b => b = g) := ⟨rfl, rfl, rfl, by simp [World.setCell], fun b _ hn => Below.heap_setCell _ _ _ _ (fun e => hn (show b = g from e.symm ▸ rfl))⟩
  exact ⟨res'.far (by have := h.rg; simp; omega) _, out'.store 2 _, E1.wr' ords' hw (fun b h1 h2 => by have := h1.2; omega), hG.wr kp2 hw (fun b hb' => by right; omega), h.lo, h.rg, (h4.below.trans (hB.mono (by have := h.lo; have := h.rg; omega))).setCell (by have := h.lo; have := h.rg; simp; omega) _⟩
theorem CBy.fin {w wr : World} {r g : Nat} {vo : Value} {os : List Int} {M : Int} {vv : Value} {xs : Tb} (h : CBy w r g vo os M vv xs wr) :
    ∃ u1 u2 F1 F2, (.agg #[vo, .int .i64 M, vv] : Value) = .agg #[u1, .int .i64 M, u2] ∧ E1 (put3 wr r vo (.int .i64 M) vv) u1 os F1 ∧ E3 (put3 wr r vo (.int .i64 M) vv) u2 xs F2 ∧ (∀ b, F1 b → F2 b → False) ∧ (∀ b, F1 b → w.heap.size ≤ b ∧ b < (put3 wr r vo (.int .i64 M) vv).heap.size) ∧ (∀ b, F2 b → w.heap.size ≤ b ∧ b < (put3 wr r vo (.int .i64 M) vv).heap.size) ∧ (∀ b, (w.heap.size ≤ b ∧ b < (put3 wr r vo (.int .i64 M) vv).heap.size) → b < (put3 wr r vo (.int .i64 M) vv).heap.size) := by
  have hw : Wr wr (put3 wr r vo (.int .i64 M) vv) (fun b => b = r) := ⟨rfl, rfl, rfl, by rw [put3_size]; exact Nat.le_refl _, fun b _ hn => by
    unfold put3
    have hne : ∀ i, b ≠ (⟨r, i, none⟩ : Addr).block := fun i e => hn e
    rw [Below.heap_setCell _ ⟨r, 2, none⟩ _ b (hne 2), Below.heap_setCell _ ⟨r, 1, none⟩ _ b (hne 1), Below.heap_setCell _ ⟨r, 0, none⟩ _ b (hne 0)]⟩
  have hlo := h.lo
  have hrg := h.rg
  have hgl := h.out.lt
  refine ⟨_, _, _, _, rfl, E1.wr' h.ords hw (fun b h1 h2 => by have := h1.1; omega), E3.wr' (show E3 wr vv xs _ from h.vals.toL) hw (fun b h1 h2 => by have := h1.1; omega), fun b h1 h2 => by have := h1.2; have := h2.1; omega, fun b hb => ?_, fun b hb => ?_, fun b hb => hb.2⟩
  · have := hb.1; have := hb.2; rw [put3_size]; omega
  · have := hb.1; have := hb.2; rw [put3_size]; omega
theorem cub_snoc' {n k : Nat} {f : Nat → Nat → Nat → Int} : ((List.range k).map fun x => mat n fun y z => f x y z) ++ [mat n fun y z => f k y z] = (List.range (k + 1)).map fun x => mat n fun y z => f x y z := by simp [List.range_succ]
set_option maxHeartbeats 8000000 in
theorem cby_triple (w : World) (A : Option Addr) (nn c : Nat) (os : List Int) (M : Int) (num : Nat → Nat → Nat → Int) (h : Sl w w.heap.size A nn c os) (hn : nn ≤ 1048576) (hH : OkH os) (hp8 : prodL os ≤ 8) (m1 : 1 ≤ M) (m2 : M ≤ 1000)
    (hcall : ∀ x y z, x < (prodL os).toNat → y < (prodL os).toNat → z < (prodL os).toNat → ∀ wd, Below w.heap.size w wd → Calls Try.prog 51 #[.int .i64 x, .int .i64 y, .int .i64 z] wd (Re wd (.int .i64 (num x y z)))) :
    Calls Try.prog 50 #[.slice A nn c, .int .i64 M, .func (.func 51) #[] #[]] w (MkE cocycle_E w (os, M, cub (prodL os).toNat fun x y z => num x y z % M)) := by
  obtain rfl := h.len
  have hp1 := hH.ge
  obtain ⟨n, hN⟩ : ∃ n : Nat, (prodL os).toNat = n := ⟨_, rfl⟩
  have hnp : prodL os = n := by omega
  rw [hN] at hcall ⊢
  have HC := hide hcall
  have hgs := fun W B (hW : Sl W B A os.length c os) => groupSize_any W B A os.length c os hW hn
  have hgz : gsz os = n := by rw [gsz_ok ⟨hH.l1, hH.m1⟩]; omega
  rw [hgz] at hgs
  have HG := hide hgs
  have hn8 : n ≤ 8 := by omega
  have hn1 : 1 ≤ n := by omega
  clear hcall hgs hgz hN hnp hp1 hp8
  go_enter Try.func50, Try.ntmps50
  go_wp2_with fail
  have hb0 : Below w.heap.size w (w.alloc (.cells #[.slice none 0 0, .int .i64 0, .slice none 0 0] 25)) := (Below.refl _ _).alloc (Nat.le_refl _) _
  have br0 : Blk (w.alloc (.cells #[.slice none 0 0, .int .i64 0, .slice none 0 0] 25)) w.heap.size 25 #[.slice none 0 0, .int .i64 0, .slice none 0 0] := Blk.new _ _ _
  refine ((clone_any _ w.heap.size _ _ _ _ (h.below hb0) (by simp) hn).mono fun _ _ hh => mkE1 hh h.rng).mono ?_
  rintro e w1 ⟨vo, rfl, ho, hb1⟩
  obtain ⟨Ao, co, rfl, _⟩ := ho.sl
  have hb1' := hb0.trans (hb1.mono (by simp))
  have br1 := br0.all hb1
  have hsz1 := hb1.size
  simp only [World.size_alloc] at hsz1 ho
  go_wp2_with fail
  refine (HG.out _ _ (h.below hb1')).mono ?_
  rintro e w2 ⟨rfl, d, rfl⟩
  obtain ⟨w2, hw2⟩ : ∃ w2, w1.drewN d = w2 := ⟨_, rfl⟩
  have hb2 : Below w1.heap.size w1 w2 := by rw [← hw2]; exact below_drewN (Below.refl _ _) _
  have br2 := br1.all hb2
  have ho2 := E1.below ho hb2
  have hb2' := hb1'.trans (hb2.mono hb1'.size)
  have hs2 : w2.heap.size = w1.heap.size := by rw [← hw2]; rfl
  rw [hw2]
  clear hw2 hb0 br0 br1
  obtain ⟨g, hg⟩ : ∃ g, w1.heap.size = g := ⟨_, rfl⟩
  rw [hg] at hsz1 ho2 hs2
  go_wp2_with fail
  obtain ⟨w3, hw3⟩ : ∃ w3, w2.alloc (.cells #[.slice Ao os.length co, .int .i64 M, .slice none 0 0] 25) = w3 := ⟨_, rfl⟩
  have hC3 : CBy w w.heap.size g (.slice Ao os.length co) os M (.slice none 0 0) [] w3 := by
    rw [← hw3]
    refine ⟨br2.alloc _, Blk.new' _ _ _ _ hs2, E1.mono (E1.below ho2 ((Below.refl _ _).alloc (Nat.le_refl _) _)) (fun b hb => ⟨by have := hb.1; omega, hb.2⟩) (fun b hb => by have := hb.2; simp; omega), Grow.nil _, Nat.le_refl _, by omega, hb2'.alloc hb2'.size _⟩
  try rw [hg]
  rw [hw3]
  clear hw3 br2 ho2 hb2' hs2 ho hb1 hb1' hb2 hg hsz1
  go_loopw [20] (fun i wr => ∃ (k : Nat) (vv : Value), k ≤ n ∧ i = .int .i64 k ∧ CBy w w.heap.size g (.slice Ao os.length co) os M vv ((List.range k).map fun x => mat n fun y z => num x y z % M) wr) (fun i _ => n - (intOf i).toNat)
  case atStart => exact ⟨0, _, by omega, rfl, hC3⟩
  case round =>
    clear hC3
    obtain ⟨k, vv, hk, rfl, hCB⟩ := hrel
    by_cases hlk : k < n
    · obtain ⟨w4, rfl⟩ : ∃ w4, w4 = wr := ⟨_, rfl⟩
      have hw4 := hCB.below.size
      have hg4 := hCB.out.lt
      go_wp2_with fail
      refine (zeros_any w4 n n (by omega) (by omega)).mono ?_
      rintro e w5 ⟨vr, rfl, hGr, hb5⟩
      have hEr := hGr.toL
      obtain ⟨Ar', cr, rfl⟩ := hGr.val
      rw [List.length_replicate] at hEr hGr ⊢
      rw [← pm_zero n fun y z => num k y z % M] at hEr
      obtain ⟨S5, hS5⟩ : ∃ S5, w5.heap.size = S5 := ⟨_, rfl⟩
      have hE5 : E2 w5 (.slice Ar' n cr) (pm n (fun y z => num k y z % M) 0 0) (fun b => w4.heap.size ≤ b ∧ b < S5) := by rw [← hS5]; exact hEr
      clear hEr hGr hS5
      go_wp2_with fail
      go_loopw [27] (fun i wx => ∃ y : Nat, y ≤ n ∧ i = .int .i64 y ∧ E2 wx (.slice Ar' n cr) (pm n (fun y z => num k y z % M) y 0) (fun b => w4.heap.size ≤ b ∧ b < S5) ∧ Below w4.heap.size w4 wx) (fun i _ => n - (intOf i).toNat)
      case atStart => exact ⟨0, by omega, rfl, hE5, hb5⟩
      case round =>
        clear hE5 hb5
        obtain ⟨y, hy, rfl, hE5, hb5⟩ := hrel
        by_cases hly : y < n
        · go_wp2_with fail
          go_loopw [31] (fun i wx => ∃ z : Nat, z ≤ n ∧ i = .int .i64 z ∧ E2 wx (.slice Ar' n cr) (pm n (fun y z => num k y z % M) y z) (fun b => w4.heap.size ≤ b ∧ b < S5) ∧ Below w4.heap.size w4 wx) (fun i _ => n - (intOf i).toNat)
          case atStart => exact ⟨0, by omega, rfl, hE5, hb5⟩
          case round =>
            clear hE5 hb5
            obtain ⟨z, hz, rfl, hE5, hb5⟩ := hrel
            by_cases hlz : z < n
            · have hm0 := Int.emod_nonneg (num k y z) (show M ≠ 0 by omega)
              have hm1 := Int.emod_lt_of_pos (num k y z) (show 0 < M by omega)
              obtain ⟨gr, g2, cr', c2, ev, hgr, hg2, x1, ⟨u, x2⟩, x3, x4, HL⟩ := E2.later hE5 hly hlz ⟨by omega, by omega⟩
              injection ev with ev1 _ ev2
              subst ev1
              subst ev2
              have HLA := hide HL
              have hCx := hCB.bel hb5
              have y0 := hCx.out.cell 0
              have y1 := hCx.out.cell 1
              have y2 := hCx.out.cell 2
              have hgx := hCx.out.lt
              have hcl := HC.out k y z hlk hly hlz
              obtain ⟨q, hq⟩ : ∃ q, num k y z = q := ⟨_, rfl⟩
              rw [hq] at hcl hm0 hm1
              have HQ := hide hq
              have HCL := hide hcl
              have X1 := hide x1
              have X2 := hide x2
              have X3 := hide x3
              have Y0 := hide y0
              have Y1 := hide y1
              have Y2 := hide y2
              clear HL hcl hq x1 x2 x3 y0 y1 y2
              obtain ⟨w6, rfl⟩ : ∃ w6, w6 = wr := ⟨_, rfl⟩
              have hb6w := hCx.below
              go_wp2_with fail
              refine wp_region_be [0, 1, 2, 3, 4, 5, 6, 7, 8, 9, 10, 11, 12, 13] 12 w6.heap.size w6 (by kernel_rfl) (by kernel_rfl) (by kernel_rfl) (fun _ _ _ _ _ h => h) (Below.refl _ _) (fun wd hBe => ?_)
              repeat (first | (apply ord_tk rfl (by rfl) (by rfl) (by rfl); (focus (intro wx hSw; have r0 := (hSw.cell (p := ⟨g, 0, none⟩) hgx).trans Y0.out; have r1 := (hSw.cell (p := ⟨g, 1, none⟩) hgx).trans Y1.out; have r2 := (hSw.cell (p := ⟨g, 2, none⟩) hgx).trans Y2.out; have r3 := (hSw.cell (p := ⟨gr, y, none⟩) hgr).trans X1.out; go_simp; (try with_reducible rfl))); (try simp only [Act.put, List.setIfInBounds_toArray, List.set_cons_zero, List.set_cons_succ])) | (apply ord_skip rfl (by rfl) (by rfl) (fun _ => hBe); (try simp only [Act.put, List.setIfInBounds_toArray, List.set_cons_zero, List.set_cons_succ])))
              refine ord_do rfl (by rfl) (by rfl) (fun K hK => ?_)
              go_simp
              refine (HCL.out _ (hb6w.trans (hBe.mono hb6w.size))).mono ?_
              rintro e wd' ⟨rfl, hwd⟩
              replace hBe := hBe.trans (hwd.mono hBe.size)
              clear hwd
              refine hK.out _ _ (fun _ => hBe) ?_
              (try simp only [Act.put, List.setIfInBounds_toArray, List.set_cons_zero, List.set_cons_succ])
              clear hK K
              repeat (first | (apply ord_tk rfl (by rfl) (by rfl) (by rfl); (focus (intro wx hSw; have r0 := (hSw.cell (p := ⟨g, 0, none⟩) hgx).trans Y0.out; have r1 := (hSw.cell (p := ⟨g, 1, none⟩) hgx).trans Y1.out; have r2 := (hSw.cell (p := ⟨g, 2, none⟩) hgx).trans Y2.out; have r3 := (hSw.cell (p := ⟨gr, y, none⟩) hgr).trans X1.out; go_simp; (try with_reducible rfl))); (try simp only [Act.put, List.setIfInBounds_toArray, List.set_cons_zero, List.set_cons_succ])) | (apply ord_skip rfl (by rfl) (by rfl) (fun _ => hBe); (try simp only [Act.put, List.setIfInBounds_toArray, List.set_cons_zero, List.set_cons_succ])))
              refine ord_do rfl (by rfl) (by rfl) (fun K hK => ?_)
              go_simp
              refine (restC_any _ _ _ M q m1 (by omega)).mono ?_
              rintro e wd' ⟨rfl, hwd⟩
              replace hBe := hBe.trans (hwd.mono hBe.size)
              clear hwd
              refine hK.out _ _ (fun _ => hBe) ?_
              (try simp only [Act.put, List.setIfInBounds_toArray, List.set_cons_zero, List.set_cons_succ])
              clear hK K
              repeat (first | (apply ord_tk rfl (by rfl) (by rfl) (by rfl); (focus (intro wx hSw; have r0 := (hSw.cell (p := ⟨g, 0, none⟩) hgx).trans Y0.out; have r1 := (hSw.cell (p := ⟨g, 1, none⟩) hgx).trans Y1.out; have r2 := (hSw.cell (p := ⟨g, 2, none⟩) hgx).trans Y2.out; have r3 := (hSw.cell (p := ⟨gr, y, none⟩) hgr).trans X1.out; go_simp; (try with_reducible rfl))); (try simp only [Act.put, List.setIfInBounds_toArray, List.set_cons_zero, List.set_cons_succ])) | (apply ord_skip rfl (by rfl) (by rfl) (fun _ => hBe); (try simp only [Act.put, List.setIfInBounds_toArray, List.set_cons_zero, List.set_cons_succ])))
              have s2 := (hBe.cell (p := ⟨g2, z, none⟩) hg2).trans X2.out
              have s3 := (hBe.frozen (p := ⟨g2, z, none⟩) hg2).trans X3.out
              refine ord_do rfl (by rfl) (by rfl) (fun K hK => ?_)
              go_simp
              refine hK.out _ _ (fun h => absurd h (by omega)) ?_
              (try simp only [Act.put, List.setIfInBounds_toArray, List.set_cons_zero, List.set_cons_succ])
              clear hK K
              refine ord_do rfl (by rfl) (by rfl) (fun K hK => ?_)
              go_simp
              refine hK.out _ _ (fun h => absurd h (by omega)) ?_
              (try simp only [Act.put, List.setIfInBounds_toArray, List.set_cons_zero, List.set_cons_succ])
              clear hK K
              refine ord_nil ?_
              have hE6 := HLA.out wd' hBe
              rw [HQ.out] at hE6
              clear s2 s3
              go_wp2_with fail
              go_roundw
              case rel => exact ⟨z + 1, by omega, by go_num, hE6, (hb5.trans (hBe.mono hb5.size)).setCell x4.1 _⟩
              case measure => simp [intOf] <;> omega
            · obtain rfl : z = n := by omega
              rw [pm_next] at hE5
              go_wp2_with fail
              go_roundw
              case rel => exact ⟨y + 1, by omega, by go_num, hE5, hb5⟩
              case measure => simp [intOf] <;> omega
        · obtain rfl : y = n := by omega
          rw [pm_all] at hE5
          obtain ⟨w6, rfl⟩ : ∃ w6, w6 = wr := ⟨_, rfl⟩
          have hCx := hCB.bel hb5
          have y2 := hCx.out.cell 2
          have z2 := hCx.out.frozen 2
          have hgx := hCx.out.lt
          have hl6 := hb5.size
          have hbw : Below w6.heap.size w6 (w6.alloc (.cells #[.slice Ar' y cr] 35)) := (Below.refl _ _).alloc (Nat.le_refl _) _
          have hE6 := E2.below hE5 hbw
          have hlen : ((List.range k).map fun x => mat y fun y z => num x y z % M).length ≤ 1048576 := by simp; omega
          have hg4' : g + 1 ≤ w4.heap.size := hg4
          obtain ⟨Av, cv, rfl⟩ := hCB.vals.val
          rw [List.length_map, List.length_range] at *
          have hgL : g < (w6.alloc (.cells #[.slice Ar' y cr] 35)).heap.size := by simp; omega
          go_wp2_with (at_builtin; refine list_pushG kp2 23 35 _ 24 Try.underlying23 rows2_info (by omega) rfl _ rfl _ _ rfl (g + 1) (.slice Av k cv) _ rfl w4 hCB.vals (hb5.trans (hbw.mono hl6)) (.slice Ar' y cr) _ _ hE6 (fun b hb => ⟨hb.1, by have := hE5.bd b hb; simp; omega⟩) rfl w6.heap.size _ rfl (Blk.new _ _ _) (by simp; omega) hg4' (by simp) ?_; intro g' cap' w7 hG7 hB7 hW7 hg7 hg8; have t2 := (hB7.cell (p := ⟨g, 2, none⟩) (Nat.lt_succ_self g)).trans ((hbw.cell (p := ⟨g, 2, none⟩) hgx).trans y2); have t3 := (hB7.frozen (p := ⟨g, 2, none⟩) (Nat.lt_succ_self g)).trans ((hbw.frozen (p := ⟨g, 2, none⟩) hgx).trans z2))
          have hN := hCB.next (hb5.trans (hbw.mono hl6)) hB7 hG7
          rw [List.length_map, List.length_range, cub_snoc' (f := fun x y z => num x y z % M)] at hN
          go_roundw
          case rel => exact ⟨k + 1, _, by omega, by go_num, hN⟩
          case measure => simp [intOf] <;> omega
    · obtain rfl : k = n := by omega
      obtain ⟨Av, cv, rfl⟩ := hCB.vals.val
      rw [List.length_map, List.length_range] at *
      have hfin := hCB.fin
      have x0 := hCB.out.cell 0
      have x1 := hCB.out.cell 1
      have x2 := hCB.out.cell 2
      have g0 := hCB.res.frozen 0
      have g1 := hCB.res.frozen 1
      have g2 := hCB.res.frozen 2
      have y0 := hCB.res.cell 0
      have y1 := hCB.res.cell 1
      have y2 := hCB.res.cell 2
      have hb3 := put3_blk (x := .slice Ao os.length co) (y := .int .i64 M) (z := .slice Av k cv) hCB.res
      have q0 := hb3.cell 0
      have q1 := hb3.cell 1
      have q2 := hb3.cell 2
      unfold put3 at q0 q1 q2
      go_wp2_with fail
      refine bodyPost_ret (v := .agg #[.slice Ao os.length co, .int .i64 M, .slice Av k cv]) (by simp [results, Try.results50, go_sem, q0, q1, q2]) rfl ?_
      exact ⟨_, rfl, ⟨show i64ok M from ⟨by omega, by omega⟩, hfin⟩, put3_below hCB.below (Nat.le_refl _)⟩
end Go.Proofs.Ythjlpgaoemdmkaa
