
/- The walk of braidingBy over the closure of StandardBraiding of the program. -/
import Derived.Test.YthjlpgaoemdmkaaCB10
import Derived.Test.YthjlpgaoemdmkaaOt
import Derived.Deep.DeepCutAuto
namespace Go.Proofs.Ythjlpgaoemdmkaa
open Go Go.RowKit Grp
set_option linter.unusedSimpArgs false
set_option linter.unusedVariables false
set_option maxRecDepth 100000
theorem sbF1_any (w : World) (p q x y z n : Nat) (a : Int) (hp : w.cell? ⟨p, 0, none⟩ = some (.int .i64 a)) (hq : w.cell? ⟨q, 0, none⟩ = some (.int .i64 n)) (hx : x < 8) (hy : y < 8) (hz : z < 8) (a0 : 0 ≤ a) (a1 : a ≤ 15) (hn : n ≤ 8) :
    Calls Try.prog 64 #[.int .i64 x, .int .i64 y, .int .i64 z, .pointer (some ⟨p, 0, none⟩), .pointer (some ⟨q, 0, none⟩)] w (Re w (.int .i64 (if (n : Int) ≤ (y : Int) + z then a * (n : Int) * (x : Int) else 0))) := by
  have h0 : 0 ≤ a * (n : Int) := Int.mul_nonneg a0 (by omega)
  have h1 : a * (n : Int) ≤ 15 * 8 := Int.mul_le_mul a1 (by omega) (by omega) (by omega)
  have h2 : 0 ≤ a * (n : Int) * (x : Int) := Int.mul_nonneg h0 (by omega)
  have h3 : a * (n : Int) * (x : Int) ≤ 120 * 8 := Int.mul_le_mul (by omega) (by omega) (by omega) (by omega)
  have w1 : IntKind.i64.wrap (a * (n : Int)) = a * (n : Int) := wr64 _ ⟨by omega, by omega⟩
  have w2 : IntKind.i64.wrap (a * (n : Int) * (x : Int)) = a * (n : Int) * (x : Int) := wr64 _ ⟨by omega, by omega⟩
  have w3 : IntKind.i64.wrap (x : Int) = x := wr64 _ ⟨by omega, by omega⟩
  have w4 : IntKind.i64.wrap (n : Int) = n := wr64 _ ⟨by omega, by omega⟩
  have HC := hide (carry_any w (a * (n : Int) * (x : Int)) y z n (by omega) (by omega))
  obtain ⟨r, hr⟩ : ∃ r, (if (n : Int) ≤ (y : Int) + z then a * (n : Int) * (x : Int) else 0) = r := ⟨_, rfl⟩
  rw [hr] at HC ⊢
  clear hr
  go_enter Try.func64, Try.ntmps64
  go_wp2_with fail
  refine HC.out.mono ?_
  rintro e w' ⟨rfl, hb⟩
  go_wp2_with fail
  go_ret
  exact ⟨rfl, hb⟩
theorem sbF2_any (w : World) (p x y : Nat) (a : Int) (hp : w.cell? ⟨p, 0, none⟩ = some (.int .i64 a)) (hx : x < 8) (hy : y < 8) (a0 : 0 ≤ a) (a1 : a ≤ 15) :
    Calls Try.prog 66 #[.int .i64 x, .int .i64 y, .pointer (some ⟨p, 0, none⟩)] w (Re w (.int .i64 (a * (x : Int) * (y : Int)))) := by
  have h0 : 0 ≤ a * (x : Int) := Int.mul_nonneg a0 (by omega)
  have h1 : a * (x : Int) ≤ 15 * 8 := Int.mul_le_mul a1 (by omega) (by omega) (by omega)
  have h2 : 0 ≤ a * (x : Int) * (y : Int) := Int.mul_nonneg h0 (by omega)
  have h3 : a * (x : Int) * (y : Int) ≤ 120 * 8 := Int.mul_le_mul (by omega) (by omega) (by omega) (by omega)
  have w1 : IntKind.i64.wrap (a * (x : Int)) = a * (x : Int) := wr64 _ ⟨by omega, by omega⟩
  have w2 : IntKind.i64.wrap (a * (x : Int) * (y : Int)) = a * (x : Int) * (y : Int) := wr64 _ ⟨by omega, by omega⟩
  have w3 : IntKind.i64.wrap (x : Int) = x := wr64 _ ⟨by omega, by omega⟩
  have w4 : IntKind.i64.wrap (y : Int) = y := wr64 _ ⟨by omega, by omega⟩
  go_enter Try.func66, Try.ntmps66
  go_wp2_with fail
  go_ret
  exact ⟨rfl, Below.refl _ _⟩
set_option maxHeartbeats 8000000 in
theorem cby_sb (w : World) (A : Option Addr) (nn c : Nat) (os : List Int) (M : Int) (p q : Nat) (num : Nat → Nat → Nat → Int) (h : Sl w w.heap.size A nn c os) (hn : nn ≤ 1048576) (hH : OkH os) (hp8 : prodL os ≤ 8) (m1 : 1 ≤ M) (m2 : M ≤ 1000)
    (hcall : ∀ x y z, x < (prodL os).toNat → y < (prodL os).toNat → z < (prodL os).toNat → ∀ wd, Below w.heap.size w wd → Calls Try.prog 64 #[.int .i64 x, .int .i64 y, .int .i64 z, .pointer (some ⟨p, 0, none⟩), .pointer (some ⟨q, 0, none⟩)] wd (Re wd (.int .i64 (num x y z)))) :
    Calls Try.prog 50 #[.slice A nn c, .int .i64 M, .func (.func 64) #[] #[.pointer (some ⟨p, 0, none⟩), .pointer (some ⟨q, 0, none⟩)]] w (MkE cocycle_E w (os, M, cub (prodL os).toNat fun x y z => num x y z % M)) := by
  obtain rfl := h.len
  have hp1 := hH.ge
  obtain ⟨n, hN⟩ : ∃ n : Nat, (prodL os).toNat = n := ⟨_, rfl⟩
  have hnp : prodL os = n := by omega
  rw [hN] at hcall ⊢
  have HC := hide hcall
  have hgs := fun W B (hW : Sl W B A os.length c os) => groupSize_any W B A os.length c os hW hn
  have hgz : gsz os = n := by rw [gsz_ok ⟨hH.l1, hH.m1⟩]; omega
  rw [hgz] at hgs
  have HG := hide hgs
  have hn8 : n ≤ 8 := by omega
  have hn1 : 1 ≤ n := by omega
  clear hcall hgs hgz hN hnp hp1 hp8
  go_enter Try.func50, Try.ntmps50
  go_wp2_with fail
  have hb0 : Below w.heap.size w (w.alloc (.cells #[.slice none 0 0, .int .i64 0, .slice none 0 0] 25)) := (Below.refl _ _).alloc (Nat.le_refl _) _
  have br0 : Blk (w.alloc (.cells #[.slice none 0 0, .int .i64 0, .slice none 0 0] 25)) w.heap.size 25 #[.slice none 0 0, .int .i64 0, .slice none 0 0] := Blk.new _ _ _
  refine ((clone_any _ w.heap.size _ _ _ _ (h.below hb0) (by simp) hn).mono fun _ _ hh => mkE1 hh h.rng).mono ?_
  rintro e w1 ⟨vo, rfl, ho, hb1⟩
  obtain ⟨Ao, co, rfl, _⟩ := ho.sl
  have hb1' := hb0.trans (hb1.mono (by simp))
  have br1 := br0.all hb1
  have hsz1 := hb1.size
  simp only [World.size_alloc] at hsz1 ho
  go_wp2_with fail
  refine (HG.out _ _ (h.below hb1')).mono ?_
  rintro e w2 ⟨rfl, d, rfl⟩
  obtain ⟨w2, hw2⟩ : ∃ w2, w1.drewN d = w2 := ⟨_, rfl⟩
  have hb2 : Below w1.heap.size w1 w2 := by rw [← hw2]; exact below_drewN (Below.refl _ _) _
  have br2 := br1.all hb2
  have ho2 := E1.below ho hb2
  have hb2' := hb1'.trans (hb2.mono hb1'.size)
  have hs2 : w2.heap.size = w1.heap.size := by rw [← hw2]; rfl
  rw [hw2]
  clear hw2 hb0 br0 br1
  obtain ⟨g, hg⟩ : ∃ g, w1.heap.size = g := ⟨_, rfl⟩
  rw [hg] at hsz1 ho2 hs2
  go_wp2_with fail
  obtain ⟨w3, hw3⟩ : ∃ w3, w2.alloc (.cells #[.slice Ao os.length co, .int .i64 M, .slice none 0 0] 25) = w3 := ⟨_, rfl⟩
  have hC3 : CBy w w.heap.size g (.slice Ao os.length co) os M (.slice none 0 0) [] w3 := by
    rw [← hw3]
    refine ⟨br2.alloc _, Blk.new' _ _ _ _ hs2, E1.mono (E1.below ho2 ((Below.refl _ _).alloc (Nat.le_refl _) _)) (fun b hb => ⟨by have := hb.1; omega, hb.2⟩) (fun b hb => by have := hb.2; simp; omega), Grow.nil _, Nat.le_refl _, by omega, hb2'.alloc hb2'.size _⟩
  try rw [hg]
  rw [hw3]
  clear hw3 br2 ho2 hb2' hs2 ho hb1 hb1' hb2 hg hsz1
  go_loopw [20] (fun i wr => ∃ (k : Nat) (vv : Value), k ≤ n ∧ i = .int .i64 k ∧ CBy w w.heap.size g (.slice Ao os.length co) os M vv ((List.range k).map fun x => mat n fun y z => num x y z % M) wr) (fun i _ => n - (intOf i).toNat)
  case atStart => exact ⟨0, _, by omega, rfl, hC3⟩
  case round =>
    clear hC3
    obtain ⟨k, vv, hk, rfl, hCB⟩ := hrel
    by_cases hlk : k < n
    · obtain ⟨w4, rfl⟩ : ∃ w4, w4 = wr := ⟨_, rfl⟩
      have hw4 := hCB.below.size
      have hg4 := hCB.out.lt
      go_wp2_with fail
      refine (zeros_any w4 n n (by omega) (by omega)).mono ?_
      rintro e w5 ⟨vr, rfl, hGr, hb5⟩
      have hEr := hGr.toL
      obtain ⟨Ar', cr, rfl⟩ := hGr.val
      rw [List.length_replicate] at hEr hGr ⊢
      rw [← pm_zero n fun y z => num k y z % M] at hEr
      obtain ⟨S5, hS5⟩ : ∃ S5, w5.heap.size = S5 := ⟨_, rfl⟩
      have hE5 : E2 w5 (.slice Ar' n cr) (pm n (fun y z => num k y z % M) 0 0) (fun b => w4.heap.size ≤ b ∧ b < S5) := by rw [← hS5]; exact hEr
      clear hEr hGr hS5
      go_wp2_with fail
      go_loopw [27] (fun i wx => ∃ y : Nat, y ≤ n ∧ i = .int .i64 y ∧ E2 wx (.slice Ar' n cr) (pm n (fun y z => num k y z % M) y 0) (fun b => w4.heap.size ≤ b ∧ b < S5) ∧ Below w4.heap.size w4 wx) (fun i _ => n - (intOf i).toNat)
      case atStart => exact ⟨0, by omega, rfl, hE5, hb5⟩
      case round =>
        clear hE5 hb5
        obtain ⟨y, hy, rfl, hE5, hb5⟩ := hrel
        by_cases hly : y < n
        · go_wp2_with fail
          go_loopw [31] (fun i wx => ∃ z : Nat, z ≤ n ∧ i = .int .i64 z ∧ E2 wx (.slice Ar' n cr) (pm n (fun y z => num k y z % M) y z) (fun b => w4.heap.size ≤ b ∧ b < S5) ∧ Below w4.heap.size w4 wx) (fun i _ => n - (intOf i).toNat)
          case atStart => exact ⟨0, by omega, rfl, hE5, hb5⟩
          case round =>
            clear hE5 hb5
            obtain ⟨z, hz, rfl, hE5, hb5⟩ := hrel
            by_cases hlz : z < n
            · have hm0 := Int.emod_nonneg (num k y z) (show M ≠ 0 by omega)
              have hm1 := Int.emod_lt_of_pos (num k y z) (show 0 < M by omega)
              obtain ⟨gr, g2, cr', c2, ev, hgr, hg2, x1, ⟨u, x2⟩, x3, x4, HL⟩ := E2.later hE5 hly hlz ⟨by omega, by omega⟩
              injection ev with ev1 _ ev2
              subst ev1
              subst ev2
              have HLA := hide HL
              have hCx := hCB.bel hb5
              have y0 := hCx.out.cell 0
              have y1 := hCx.out.cell 1
              have y2 := hCx.out.cell 2
              have hgx := hCx.out.lt
              have hcl := HC.out k y z hlk hly hlz
              obtain ⟨q, hq⟩ : ∃ q, num k y z = q := ⟨_, rfl⟩
              rw [hq] at hcl hm0 hm1
              have HQ := hide hq
              have HCL := hide hcl
              have X1 := hide x1
              have X2 := hide x2
              have X3 := hide x3
              have Y0 := hide y0
              have Y1 := hide y1
              have Y2 := hide y2
              clear HL hcl hq x1 x2 x3 y0 y1 y2
              obtain ⟨w6, rfl⟩ : ∃ w6, w6 = wr := ⟨_, rfl⟩
              have hb6w := hCx.below
              go_wp2_with fail
              refine wp_region_be [0, 1, 2, 3, 4, 5, 6, 7, 8, 9, 10, 11, 12, 13] 12 w6.heap.size w6 (by kernel_rfl) (by kernel_rfl) (by kernel_rfl) (fun _ _ _ _ _ h => h) (Below.refl _ _) (fun wd hBe => ?_)
              repeat (first | (apply ord_tk rfl (by rfl) (by rfl) (by rfl); (focus (intro wx hSw; have r0 := (hSw.cell (p := ⟨g, 0, none⟩) hgx).trans Y0.out; have r1 := (hSw.cell (p := ⟨g, 1, none⟩) hgx).trans Y1.out; have r2 := (hSw.cell (p := ⟨g, 2, none⟩) hgx).trans Y2.out; have r3 := (hSw.cell (p := ⟨gr, y, none⟩) hgr).trans X1.out; go_simp; (try with_reducible rfl))); (try simp only [Act.put, List.setIfInBounds_toArray, List.set_cons_zero, List.set_cons_succ])) | (apply ord_skip rfl (by rfl) (by rfl) (fun _ => hBe); (try simp only [Act.put, List.setIfInBounds_toArray, List.set_cons_zero, List.set_cons_succ])))
              refine ord_do rfl (by rfl) (by rfl) (fun K hK => ?_)
              go_simp
              refine (HCL.out _ (hb6w.trans (hBe.mono hb6w.size))).mono ?_
              rintro e wd' ⟨rfl, hwd⟩
              replace hBe := hBe.trans (hwd.mono hBe.size)
              clear hwd
              refine hK.out _ _ (fun _ => hBe) ?_
              (try simp only [Act.put, List.setIfInBounds_toArray, List.set_cons_zero, List.set_cons_succ])
              clear hK K
              repeat (first | (apply ord_tk rfl (by rfl) (by rfl) (by rfl); (focus (intro wx hSw; have r0 := (hSw.cell (p := ⟨g, 0, none⟩) hgx).trans Y0.out; have r1 := (hSw.cell (p := ⟨g, 1, none⟩) hgx).trans Y1.out; have r2 := (hSw.cell (p := ⟨g, 2, none⟩) hgx).trans Y2.out; have r3 := (hSw.cell (p := ⟨gr, y, none⟩) hgr).trans X1.out; go_simp; (try with_reducible rfl))); (try simp only [Act.put, List.setIfInBounds_toArray, List.set_cons_zero, List.set_cons_succ])) | (apply ord_skip rfl (by rfl) (by rfl) (fun _ => hBe); (try simp only [Act.put, List.setIfInBounds_toArray, List.set_cons_zero, List.set_cons_succ])))
              refine ord_do rfl (by rfl) (by rfl) (fun K hK => ?_)
              go_simp
              refine (restC_any _ _ _ M q m1 (by omega)).mono ?_
              rintro e wd' ⟨rfl, hwd⟩
              replace hBe := hBe.trans (hwd.mono hBe.size)
              clear hwd
              refine hK.out _ _ (fun _ => hBe) ?_
              (try simp only [Act.put, List.setIfInBounds_toArray, List.set_cons_zero, List.set_cons_succ])
              clear hK K
              repeat (first | (apply ord_tk rfl (by rfl) (by rfl) (by rfl); (focus (intro wx hSw; have r0 := (hSw.cell (p := ⟨g, 0, none⟩) hgx).trans Y0.out; have r1 := (hSw.cell (p := ⟨g, 1, none⟩) hgx).trans Y1.out; have r2 := (hSw.cell (p := ⟨g, 2, none⟩) hgx).trans Y2.out; have r3 := (hSw.cell (p := ⟨gr, y, none⟩) hgr).trans X1.out; go_simp; (try with_reducible rfl))); (try simp only [Act.put, List.setIfInBounds_toArray, List.set_cons_zero, List.set_cons_succ])) | (apply ord_skip rfl (by rfl) (by rfl) (fun _ => hBe); (try simp only [Act.put, List.setIfInBounds_toArray, List.set_cons_zero, List.set_cons_succ])))
              have s2 := (hBe.cell (p := ⟨g2, z, none⟩) hg2).trans X2.out
              have s3 := (hBe.frozen (p := ⟨g2, z, none⟩) hg2).trans X3.out
              refine ord_do rfl (by rfl) (by rfl) (fun K hK => ?_)
              go_simp
              refine hK.out _ _ (fun h => absurd h (by omega)) ?_
              (try simp only [Act.put, List.setIfInBounds_toArray, List.set_cons_zero, List.set_cons_succ])
              clear hK K
              refine ord_do rfl (by rfl) (by rfl) (fun K hK => ?_)
              go_simp
              refine hK.out _ _ (fun h => absurd h (by omega)) ?_
              (try simp only [Act.put, List.setIfInBounds_toArray, List.set_cons_zero, List.set_cons_succ])
              clear hK K
              refine ord_nil ?_
              have hE6 := HLA.out wd' hBe
              rw [HQ.out] at hE6
              clear s2 s3
              go_wp2_with fail
              go_roundw
              case rel => exact ⟨z + 1, by omega, by go_num, hE6, (hb5.trans (hBe.mono hb5.size)).setCell x4.1 _⟩
              case measure => simp [intOf] <;> omega
            · obtain rfl : z = n := by omega
              rw [pm_next] at hE5
              go_wp2_with fail
              go_roundw
              case rel => exact ⟨y + 1, by omega, by go_num, hE5, hb5⟩
              case measure => simp [intOf] <;> omega
        · obtain rfl : y = n := by omega
          rw [pm_all] at hE5
          obtain ⟨w6, rfl⟩ : ∃ w6, w6 = wr := ⟨_, rfl⟩
          have hCx := hCB.bel hb5
          have y2 := hCx.out.cell 2
          have z2 := hCx.out.frozen 2
          have hgx := hCx.out.lt
          have hl6 := hb5.size
          have hbw : Below w6.heap.size w6 (w6.alloc (.cells #[.slice Ar' y cr] 35)) := (Below.refl _ _).alloc (Nat.le_refl _) _
          have hE6 := E2.below hE5 hbw
          have hlen : ((List.range k).map fun x => mat y fun y z => num x y z % M).length ≤ 1048576 := by simp; omega
          have hg4' : g + 1 ≤ w4.heap.size := hg4
          obtain ⟨Av, cv, rfl⟩ := hCB.vals.val
          rw [List.length_map, List.length_range] at *
          have hgL : g < (w6.alloc (.cells #[.slice Ar' y cr] 35)).heap.size := by simp; omega
          go_wp2_with (at_builtin; refine list_pushG kp2 23 35 _ 24 Try.underlying23 rows2_info (by omega) rfl _ rfl _ _ rfl (g + 1) (.slice Av k cv) _ rfl w4 hCB.vals (hb5.trans (hbw.mono hl6)) (.slice Ar' y cr) _ _ hE6 (fun b hb => ⟨hb.1, by have := hE5.bd b hb; simp; omega⟩) rfl w6.heap.size _ rfl (Blk.new _ _ _) (by simp; omega) hg4' (by simp) ?_; intro g' cap' w7 hG7 hB7 hW7 hg7 hg8; have t2 := (hB7.cell (p := ⟨g, 2, none⟩) (Nat.lt_succ_self g)).trans ((hbw.cell (p := ⟨g, 2, none⟩) hgx).trans y2); have t3 := (hB7.frozen (p := ⟨g, 2, none⟩) (Nat.lt_succ_self g)).trans ((hbw.frozen (p := ⟨g, 2, none⟩) hgx).trans z2))
          have hN := hCB.next (hb5.trans (hbw.mono hl6)) hB7 hG7
          rw [List.length_map, List.length_range, cub_snoc' (f := fun x y z => num x y z % M)] at hN
          go_roundw
          case rel => exact ⟨k + 1, _, by omega, by go_num, hN⟩
          case measure => simp [intOf] <;> omega
    · obtain rfl : k = n := by omega
      obtain ⟨Av, cv, rfl⟩ := hCB.vals.val
      rw [List.length_map, List.length_range] at *
      have hfin := hCB.fin
      have x0 := hCB.out.cell 0
      have x1 := hCB.out.cell 1
      have x2 := hCB.out.cell 2
      have g0 := hCB.res.frozen 0
      have g1 := hCB.res.frozen 1
      have g2 := hCB.res.frozen 2
      have y0 := hCB.res.cell 0
      have y1 := hCB.res.cell 1
      have y2 := hCB.res.cell 2
      have hb3 := put3_blk (x := .slice Ao os.length co) (y := .int .i64 M) (z := .slice Av k cv) hCB.res
      have q0 := hb3.cell 0
      have q1 := hb3.cell 1
      have q2 := hb3.cell 2
      unfold put3 at q0 q1 q2
      go_wp2_with fail
      refine bodyPost_ret (v := .agg #[.slice Ao os.length co, .int .i64 M, .slice Av k cv]) (by simp [results, Try.results50, go_sem, q0, q1, q2]) rfl ?_
      exact ⟨_, rfl, ⟨show i64ok M from ⟨by omega, by omega⟩, hfin⟩, put3_below hCB.below (Nat.le_refl _)⟩

/-- A braiding of the program under construction: the cocycle's box, the result's slot, its struct in g, its table below T. -/
structure BBy (w : World) (g T : Nat) (a b c : Value) (vt : Value) (xs : List (List Int)) (wr : World) : Prop where
  box : Blk wr w.heap.size 25 #[a, b, c]
  res : Blk wr (w.heap.size + 1) 37 #[.slice none 0 0, .int .i64 0, .slice none 0 0, .slice none 0 0]
  out : Blk wr g 37 #[a, b, c, vt]
  tab : E2 wr vt xs (fun b => w.heap.size + 1 < b ∧ b ≠ g ∧ b < T)
  gl : w.heap.size + 1 < g
  below : Below w.heap.size w wr
theorem BBy.bel {w wr w' : World} {g T : Nat} {a b c vt : Value} {xs : List (List Int)} (h : BBy w g T a b c vt xs wr) (hb : Below wr.heap.size wr w') : BBy w g T a b c vt xs w' :=
  ⟨h.box.all hb, h.res.all hb, h.out.all hb, E2.below h.tab hb, h.gl, h.below.trans (hb.mono h.below.size)⟩
theorem BBy.step {w wr w' : World} {g T : Nat} {a b c vt : Value} {xs ys : List (List Int)} (h : BBy w g T a b c vt xs wr) (hb : Below wr.heap.size wr w') {g2 y : Nat} {u : Value} (hE : E2 (w'.setCell ⟨g2, y, none⟩ u) vt ys (fun b => w.heap.size + 1 < b ∧ b ≠ g ∧ b < T)) (hg : w.heap.size + 1 < g2 ∧ g2 ≠ g ∧ g2 < T) : BBy w g T a b c vt ys (w'.setCell ⟨g2, y, none⟩ u) := by
  have h' := h.bel hb
  have hw : Wr w' (w'.setCell ⟨g2, y, none⟩ u) (fun b => b = g2) := ⟨rfl, rfl, rfl, by simp [World.setCell], fun b _ hn => Below.heap_setCell _ ⟨g2, y, none⟩ _ b (fun e => hn e)⟩
  exact ⟨hw.blk h'.box (by omega), hw.blk h'.res (by omega), hw.blk h'.out (fun e => hg.2.1 e.symm), hE, h.gl, h'.below.setCell (by simp; omega) _⟩
theorem be_al {W w : World} (h : Below W.heap.size W w) (t : TypeId) (cs : Array Value) : ∃ wa g, w.heap.size = g ∧ w.alloc (.cells cs t) = wa ∧ Below W.heap.size W wa ∧ Below w.heap.size w wa ∧ Blk wa g t cs ∧ W.heap.size ≤ g :=
  ⟨_, _, rfl, rfl, h.alloc h.size _, (Below.refl _ _).alloc (Nat.le_refl _) _, Blk.new _ _ _, h.size⟩
set_option maxHeartbeats 8000000 in
theorem bby_any (w : World) (A : Option Addr) (k c : Nat) (M : Int) (D : Option Addr) (n e : Nat) (p : Nat) (num : Nat → Nat → Int) (n8 : n ≤ 8) (m1 : 1 ≤ M) (m2 : M ≤ 1000)
    (hcall : ∀ x y, x < n → y < n → ∀ wd, Below w.heap.size w wd → Calls Try.prog 66 #[.int .i64 x, .int .i64 y, .pointer (some ⟨p, 0, none⟩)] wd (Re wd (.int .i64 (num x y)))) :
    Calls Try.prog 65 #[.agg #[.slice A k c, .int .i64 M, .slice D n e], .func (.func 66) #[] #[.pointer (some ⟨p, 0, none⟩)]] w
      (fun en w' => ∃ u, en = .returned (.agg #[.slice A k c, .int .i64 M, .slice D n e, u]) ∧ E2 w' u (mat n fun x y => num x y % M) (fun b => w.heap.size ≤ b ∧ b < w'.heap.size) ∧ Below w.heap.size w w') := by
  have HC := hide hcall
  clear hcall
  go_enter Try.func65, Try.ntmps65
  go_wp2_with fail
  obtain ⟨W, hW⟩ : ∃ W, (w.alloc (.cells #[.slice A k c, .int .i64 M, .slice D n e] 25)).alloc (.cells #[.slice none 0 0, .int .i64 0, .slice none 0 0, .slice none 0 0] 37) = W := ⟨_, rfl⟩
  have hb0 : Below w.heap.size w W := by rw [← hW]; exact (by repeat (first | assumption | exact Below.refl _ _ | apply below_drewN | apply Below.drew | apply Below.alloc | apply Below.setCell | omega | (focus (simp; done)) | (focus (simp; omega))))
  have bc : Blk W w.heap.size 25 #[.slice A k c, .int .i64 M, .slice D n e] := by rw [← hW]; exact (Blk.new _ _ _).alloc _
  have br : Blk W (w.heap.size + 1) 37 #[.slice none 0 0, .int .i64 0, .slice none 0 0, .slice none 0 0] := by rw [← hW]; exact Blk.new' _ _ _ _ (by simp)
  rw [hW]
  clear hW
  have hcx := bc.lt
  have hrx := br.lt
  have Y0 := hide (bc.cell 0)
  have Y1 := hide (bc.cell 1)
  have Y2 := hide (bc.cell 2)
  go_upto_region 1 with fail
  go_cut [5] (fun s5 wx => ∃ g T vt, s5 = .pointer (some ⟨g, 0, none⟩) ∧ BBy w g T (.slice A k c) (.int .i64 M) (.slice D n e) vt (pm n (fun x y => num x y % M) 0 0) wx)
  case first =>
    refine wp_region_bt (.one 0 (.one 1 (.one 2 (.one 3 (.one 4 (.one 5 (.one 6 (.two 7 (.one 8 (.one 9 (.one 10 .nil))) 9 (.one 7 (.one 8 (.one 10 .nil))))))))))) 10 W.heap.size W (by kernel_rfl) (by kernel_rfl) (by kernel_rfl) (fun _ _ _ _ _ h => h) (Below.refl _ _) (fun wd hBe => ?_)
    repeat (first | (apply ot_tk rfl (by rfl) (by rfl) (by rfl); (focus (intro wx hSw; have r0 := (hSw.cell (p := ⟨w.heap.size, 0, none⟩) hcx).trans Y0.out; have r1 := (hSw.cell (p := ⟨w.heap.size, 1, none⟩) hcx).trans Y1.out; have r2 := (hSw.cell (p := ⟨w.heap.size, 2, none⟩) hcx).trans Y2.out; go_simp; (try with_reducible rfl))); (try simp only [Act.put, List.setIfInBounds_toArray, List.set_cons_zero, List.set_cons_succ])) | (apply ot_skip rfl (by rfl) (by rfl) (fun _ => hBe); (try simp only [Act.put, List.setIfInBounds_toArray, List.set_cons_zero, List.set_cons_succ])))
    refine ot_two ?_ ?_
    · skip
      refine ot_do rfl (by rfl) (by rfl) (fun K hK => ?_)
      go_simp
      refine (zeros_any _ n n (by omega) (by omega)).mono ?_
      rintro en wz ⟨vr, rfl, hGr, hbz⟩
      have hEr := hGr.toL
      obtain ⟨Ar', cr, rfl⟩ := hGr.val
      rw [List.length_replicate] at hEr hGr ⊢
      rw [← pm_zero n fun x y => num x y % M] at hEr
      have hzs := hbz.size
      (try replace bO := bO.all hbz)
      have hBs := hBe.size
      replace hBe := hBe.trans (hbz.mono hBe.size)
      clear hGr
      refine hK.out _ _ (fun _ => hBe) ?_
      (try simp only [Act.put, List.setIfInBounds_toArray, List.set_cons_zero, List.set_cons_succ])
      clear hK K
      repeat (first | (apply ot_tk rfl (by rfl) (by rfl) (by rfl); (focus (intro wx hSw; have r0 := (hSw.cell (p := ⟨w.heap.size, 0, none⟩) hcx).trans Y0.out; have r1 := (hSw.cell (p := ⟨w.heap.size, 1, none⟩) hcx).trans Y1.out; have r2 := (hSw.cell (p := ⟨w.heap.size, 2, none⟩) hcx).trans Y2.out; go_simp; (try with_reducible rfl))); (try simp only [Act.put, List.setIfInBounds_toArray, List.set_cons_zero, List.set_cons_succ])) | (apply ot_skip rfl (by rfl) (by rfl) (fun _ => hBe); (try simp only [Act.put, List.setIfInBounds_toArray, List.set_cons_zero, List.set_cons_succ])))
      refine ot_do rfl (by rfl) (by rfl) (fun K hK => ?_)
      go_simp
      obtain ⟨wa, g, hg, hwa, hBa, hsub, bO, hgB⟩ := be_al hBe 37 #[.slice none 0 0, .int .i64 0, .slice none 0 0, .slice none 0 0]
      rw [hwa, hg]
      clear hwa
      have hgl := bO.lt
      clear hBe
      have hBe := hBa
      clear hBa
      refine hK.out _ _ (fun _ => hBe) ?_
      (try simp only [Act.put, List.setIfInBounds_toArray, List.set_cons_zero, List.set_cons_succ])
      clear hK K
      repeat (first | (apply ot_tk rfl (by rfl) (by rfl) (by rfl); (focus (intro wx hSw; have r0 := (hSw.cell (p := ⟨w.heap.size, 0, none⟩) hcx).trans Y0.out; have r1 := (hSw.cell (p := ⟨w.heap.size, 1, none⟩) hcx).trans Y1.out; have r2 := (hSw.cell (p := ⟨w.heap.size, 2, none⟩) hcx).trans Y2.out; go_simp; (try with_reducible rfl))); (try simp only [Act.put, List.setIfInBounds_toArray, List.set_cons_zero, List.set_cons_succ])) | (apply ot_skip rfl (by rfl) (by rfl) (fun _ => hBe); (try simp only [Act.put, List.setIfInBounds_toArray, List.set_cons_zero, List.set_cons_succ])))
      have hEz : E2 wa (.slice Ar' n cr) (pm n (fun x y => num x y % M) 0 0) (fun b => w.heap.size + 1 < b ∧ b ≠ g ∧ b < wa.heap.size) := OwL.mono (E2.below hEr hsub) (fun b hb => ⟨by have := hb.1; omega, by have := hb.2; omega, by have := hb.2; have := hsub.size; omega⟩) (fun b hb => hb.2.2)
      clear hEr hsub
      have f0 := bO.frozen 0
      have f1 := bO.frozen 1
      have f2 := bO.frozen 2
      have f3 := bO.frozen 3
      have y0 := bO.cell 0
      have y1 := bO.cell 1
      have y2 := bO.cell 2
      have y3 := bO.cell 3
      have hF : BBy w g wa.heap.size (.slice A k c) (.int .i64 M) (.slice D n e) (.slice Ar' n cr) (pm n (fun x y => num x y % M) 0 0) (put4 wa g (.slice A k c) (.int .i64 M) (.slice D n e) (.slice Ar' n cr)) := by
        have hpw : Wr wa (put4 wa g (.slice A k c) (.int .i64 M) (.slice D n e) (.slice Ar' n cr)) (fun b => b = g) := put4_wr
        have hps : (put4 wa g (.slice A k c) (.int .i64 M) (.slice D n e) (.slice Ar' n cr)).heap.size = wa.heap.size := put4_size
        refine ⟨hpw.blk (bc.below hBe hcx) (by omega), hpw.blk (br.below hBe hrx) (by omega), put4_blk bO, ?_, by omega, put4_below (hb0.trans (hBe.mono hb0.size)) (by omega)⟩
        exact OwL.mono (kp2 _ _ _ _ _ hEz (fun b hb => hpw.block b hb.2.2 hb.2.1) hpw.size) (fun b hb => hb) (fun b hb => by rw [hps]; exact hb.2.2)
      unfold put4 put3 at hF
      have HF := hide hF
      clear hF
      refine ot_do rfl (by rfl) (by rfl) (fun K hK => ?_)
      go_simp
      refine hK.out _ _ (fun h => absurd h (by omega)) ?_
      (try simp only [Act.put, List.setIfInBounds_toArray, List.set_cons_zero, List.set_cons_succ])
      clear hK K
      refine ot_nil ?_
      go_wp2_with fail
      go_meet
      exact ⟨g, _, _, rfl, HF.out⟩
    · skip
      refine ot_do rfl (by rfl) (by rfl) (fun K hK => ?_)
      go_simp
      obtain ⟨wa, g, hg, hwa, hBa, hsub, bO, hgB⟩ := be_al hBe 37 #[.slice none 0 0, .int .i64 0, .slice none 0 0, .slice none 0 0]
      rw [hwa, hg]
      clear hwa
      have hgl := bO.lt
      clear hBe
      have hBe := hBa
      clear hBa
      refine hK.out _ _ (fun _ => hBe) ?_
      (try simp only [Act.put, List.setIfInBounds_toArray, List.set_cons_zero, List.set_cons_succ])
      clear hK K
      repeat (first | (apply ot_tk rfl (by rfl) (by rfl) (by rfl); (focus (intro wx hSw; have r0 := (hSw.cell (p := ⟨w.heap.size, 0, none⟩) hcx).trans Y0.out; have r1 := (hSw.cell (p := ⟨w.heap.size, 1, none⟩) hcx).trans Y1.out; have r2 := (hSw.cell (p := ⟨w.heap.size, 2, none⟩) hcx).trans Y2.out; go_simp; (try with_reducible rfl))); (try simp only [Act.put, List.setIfInBounds_toArray, List.set_cons_zero, List.set_cons_succ])) | (apply ot_skip rfl (by rfl) (by rfl) (fun _ => hBe); (try simp only [Act.put, List.setIfInBounds_toArray, List.set_cons_zero, List.set_cons_succ])))
      refine ot_do rfl (by rfl) (by rfl) (fun K hK => ?_)
      go_simp
      refine (zeros_any _ n n (by omega) (by omega)).mono ?_
      rintro en wz ⟨vr, rfl, hGr, hbz⟩
      have hEr := hGr.toL
      obtain ⟨Ar', cr, rfl⟩ := hGr.val
      rw [List.length_replicate] at hEr hGr ⊢
      rw [← pm_zero n fun x y => num x y % M] at hEr
      have hzs := hbz.size
      (try replace bO := bO.all hbz)
      have hBs := hBe.size
      replace hBe := hBe.trans (hbz.mono hBe.size)
      clear hGr
      refine hK.out _ _ (fun _ => hBe) ?_
      (try simp only [Act.put, List.setIfInBounds_toArray, List.set_cons_zero, List.set_cons_succ])
      clear hK K
      repeat (first | (apply ot_tk rfl (by rfl) (by rfl) (by rfl); (focus (intro wx hSw; have r0 := (hSw.cell (p := ⟨w.heap.size, 0, none⟩) hcx).trans Y0.out; have r1 := (hSw.cell (p := ⟨w.heap.size, 1, none⟩) hcx).trans Y1.out; have r2 := (hSw.cell (p := ⟨w.heap.size, 2, none⟩) hcx).trans Y2.out; go_simp; (try with_reducible rfl))); (try simp only [Act.put, List.setIfInBounds_toArray, List.set_cons_zero, List.set_cons_succ])) | (apply ot_skip rfl (by rfl) (by rfl) (fun _ => hBe); (try simp only [Act.put, List.setIfInBounds_toArray, List.set_cons_zero, List.set_cons_succ])))
      have hEz : E2 wz (.slice Ar' n cr) (pm n (fun x y => num x y % M) 0 0) (fun b => w.heap.size + 1 < b ∧ b ≠ g ∧ b < wz.heap.size) := OwL.mono hEr (fun b hb => ⟨by have := hb.1; omega, by have := hb.1; omega, hb.2⟩) (fun b hb => hb.2.2)
      clear hEr hsub
      have f0 := bO.frozen 0
      have f1 := bO.frozen 1
      have f2 := bO.frozen 2
      have f3 := bO.frozen 3
      have y0 := bO.cell 0
      have y1 := bO.cell 1
      have y2 := bO.cell 2
      have y3 := bO.cell 3
      have hF : BBy w g wz.heap.size (.slice A k c) (.int .i64 M) (.slice D n e) (.slice Ar' n cr) (pm n (fun x y => num x y % M) 0 0) (put4 wz g (.slice A k c) (.int .i64 M) (.slice D n e) (.slice Ar' n cr)) := by
        have hpw : Wr wz (put4 wz g (.slice A k c) (.int .i64 M) (.slice D n e) (.slice Ar' n cr)) (fun b => b = g) := put4_wr
        have hps : (put4 wz g (.slice A k c) (.int .i64 M) (.slice D n e) (.slice Ar' n cr)).heap.size = wz.heap.size := put4_size
        refine ⟨hpw.blk (bc.below hBe hcx) (by omega), hpw.blk (br.below hBe hrx) (by omega), put4_blk bO, ?_, by omega, put4_below (hb0.trans (hBe.mono hb0.size)) (by omega)⟩
        exact OwL.mono (kp2 _ _ _ _ _ hEz (fun b hb => hpw.block b hb.2.2 hb.2.1) hpw.size) (fun b hb => hb) (fun b hb => by rw [hps]; exact hb.2.2)
      unfold put4 put3 at hF
      have HF := hide hF
      clear hF
      refine ot_do rfl (by rfl) (by rfl) (fun K hK => ?_)
      go_simp
      refine hK.out _ _ (fun h => absurd h (by omega)) ?_
      (try simp only [Act.put, List.setIfInBounds_toArray, List.set_cons_zero, List.set_cons_succ])
      clear hK K
      refine ot_nil ?_
      go_wp2_with fail
      go_meet
      exact ⟨g, _, _, rfl, HF.out⟩
  case rest =>
    clear hcx hrx Y0 Y1 Y2 bc br hb0
    obtain ⟨g, T, vt, rfl, hB⟩ := hcut
    obtain ⟨Av, cv, hvt, _⟩ := E2.sl2 hB.tab
    rw [pm_len] at hvt
    subst hvt
    have y3 := hB.out.cell 3
    go_wp2_with fail
    clear y3
    go_loopw [20] (fun i wx => ∃ x : Nat, x ≤ n ∧ i = .int .i64 x ∧ BBy w g T (.slice A k c) (.int .i64 M) (.slice D n e) (.slice Av n cv) (pm n (fun x y => num x y % M) x 0) wx) (fun i _ => n - (intOf i).toNat)
    case atStart => exact ⟨0, by omega, rfl, hB⟩
    case round =>
      clear hB
      obtain ⟨x, hx, rfl, hB⟩ := hrel
      by_cases hlx : x < n
      · have y3 := hB.out.cell 3
        go_wp2_with fail
        clear y3
        go_loopw [26] (fun i wx => ∃ y : Nat, y ≤ n ∧ i = .int .i64 y ∧ BBy w g T (.slice A k c) (.int .i64 M) (.slice D n e) (.slice Av n cv) (pm n (fun x y => num x y % M) x y) wx) (fun i _ => n - (intOf i).toNat)
        case atStart => exact ⟨0, by omega, rfl, hB⟩
        case round =>
          clear hB
          obtain ⟨y, hy, rfl, hB⟩ := hrel
          by_cases hly : y < n
          · have hm0 := Int.emod_nonneg (num x y) (show M ≠ 0 by omega)
            have hm1 := Int.emod_lt_of_pos (num x y) (show 0 < M by omega)
            obtain ⟨gr, g2, cr', c2, ev, hgr, hg2, x1, ⟨u, x2⟩, x3, x4, HL⟩ := E2.later hB.tab hlx hly ⟨by omega, by omega⟩
            injection ev with ev1 _ ev2
            subst ev1
            subst ev2
            have HLA := hide HL
            have Y0 := hide (hB.box.cell 0)
            have Y1 := hide (hB.box.cell 1)
            have Y2 := hide (hB.box.cell 2)
            have Y3 := hide (hB.out.cell 3)
            have hcx := hB.box.lt
            have hgx := hB.out.lt
            have hcl := HC.out x y hlx hly
            obtain ⟨q, hq⟩ : ∃ q, num x y = q := ⟨_, rfl⟩
            rw [hq] at hcl hm0 hm1
            have HQ := hide hq
            have HCL := hide hcl
            have X1 := hide x1
            have X2 := hide x2
            have X3 := hide x3
            have HB := hide hB
            clear HL hcl hq x1 x2 x3 hB
            obtain ⟨w6, rfl⟩ : ∃ w6, w6 = wr := ⟨_, rfl⟩
            go_wp2_with fail
            refine wp_region_be [0, 1, 2, 3, 4, 5, 6, 7, 8, 9, 10, 11, 12, 13] 12 w6.heap.size w6 (by kernel_rfl) (by kernel_rfl) (by kernel_rfl) (fun _ _ _ _ _ h => h) (Below.refl _ _) (fun wd hBe => ?_)
            repeat (first | (apply ord_tk rfl (by rfl) (by rfl) (by rfl); (focus (intro wx hSw; have r0 := (hSw.cell (p := ⟨w.heap.size, 0, none⟩) hcx).trans Y0.out; have r1 := (hSw.cell (p := ⟨w.heap.size, 1, none⟩) hcx).trans Y1.out; have r2 := (hSw.cell (p := ⟨w.heap.size, 2, none⟩) hcx).trans Y2.out; have r3 := (hSw.cell (p := ⟨g, 3, none⟩) hgx).trans Y3.out; have r4 := (hSw.cell (p := ⟨gr, x, none⟩) hgr).trans X1.out; go_simp; (try with_reducible rfl))); (try simp only [Act.put, List.setIfInBounds_toArray, List.set_cons_zero, List.set_cons_succ])) | (apply ord_skip rfl (by rfl) (by rfl) (fun _ => hBe); (try simp only [Act.put, List.setIfInBounds_toArray, List.set_cons_zero, List.set_cons_succ])))
            refine ord_do rfl (by rfl) (by rfl) (fun K hK => ?_)
            go_simp
            refine (HCL.out _ (HB.out.below.trans (hBe.mono HB.out.below.size))).mono ?_
            rintro e wd' ⟨rfl, hwd⟩
            replace hBe := hBe.trans (hwd.mono hBe.size)
            clear hwd
            refine hK.out _ _ (fun _ => hBe) ?_
            (try simp only [Act.put, List.setIfInBounds_toArray, List.set_cons_zero, List.set_cons_succ])
            clear hK K
            repeat (first | (apply ord_tk rfl (by rfl) (by rfl) (by rfl); (focus (intro wx hSw; have r0 := (hSw.cell (p := ⟨w.heap.size, 0, none⟩) hcx).trans Y0.out; have r1 := (hSw.cell (p := ⟨w.heap.size, 1, none⟩) hcx).trans Y1.out; have r2 := (hSw.cell (p := ⟨w.heap.size, 2, none⟩) hcx).trans Y2.out; have r3 := (hSw.cell (p := ⟨g, 3, none⟩) hgx).trans Y3.out; have r4 := (hSw.cell (p := ⟨gr, x, none⟩) hgr).trans X1.out; go_simp; (try with_reducible rfl))); (try simp only [Act.put, List.setIfInBounds_toArray, List.set_cons_zero, List.set_cons_succ])) | (apply ord_skip rfl (by rfl) (by rfl) (fun _ => hBe); (try simp only [Act.put, List.setIfInBounds_toArray, List.set_cons_zero, List.set_cons_succ])))
            refine ord_do rfl (by rfl) (by rfl) (fun K hK => ?_)
            go_simp
            refine (restC_any _ _ _ M q m1 (by omega)).mono ?_
            rintro e wd' ⟨rfl, hwd⟩
            replace hBe := hBe.trans (hwd.mono hBe.size)
            clear hwd
            refine hK.out _ _ (fun _ => hBe) ?_
            (try simp only [Act.put, List.setIfInBounds_toArray, List.set_cons_zero, List.set_cons_succ])
            clear hK K
            repeat (first | (apply ord_tk rfl (by rfl) (by rfl) (by rfl); (focus (intro wx hSw; have r0 := (hSw.cell (p := ⟨w.heap.size, 0, none⟩) hcx).trans Y0.out; have r1 := (hSw.cell (p := ⟨w.heap.size, 1, none⟩) hcx).trans Y1.out; have r2 := (hSw.cell (p := ⟨w.heap.size, 2, none⟩) hcx).trans Y2.out; have r3 := (hSw.cell (p := ⟨g, 3, none⟩) hgx).trans Y3.out; have r4 := (hSw.cell (p := ⟨gr, x, none⟩) hgr).trans X1.out; go_simp; (try with_reducible rfl))); (try simp only [Act.put, List.setIfInBounds_toArray, List.set_cons_zero, List.set_cons_succ])) | (apply ord_skip rfl (by rfl) (by rfl) (fun _ => hBe); (try simp only [Act.put, List.setIfInBounds_toArray, List.set_cons_zero, List.set_cons_succ])))
            have s2 := (hBe.cell (p := ⟨g2, y, none⟩) hg2).trans X2.out
            have s3 := (hBe.frozen (p := ⟨g2, y, none⟩) hg2).trans X3.out
            refine ord_do rfl (by rfl) (by rfl) (fun K hK => ?_)
            go_simp
            refine hK.out _ _ (fun h => absurd h (by omega)) ?_
            (try simp only [Act.put, List.setIfInBounds_toArray, List.set_cons_zero, List.set_cons_succ])
            clear hK K
            refine ord_do rfl (by rfl) (by rfl) (fun K hK => ?_)
            go_simp
            refine hK.out _ _ (fun h => absurd h (by omega)) ?_
            (try simp only [Act.put, List.setIfInBounds_toArray, List.set_cons_zero, List.set_cons_succ])
            clear hK K
            refine ord_nil ?_
            have hE6 := HLA.out wd' hBe
            simp only [HQ.out] at hE6
            have HN := hide (HB.out.step hBe hE6 x4)
            clear s2 s3 hE6
            go_wp2_with fail
            go_roundw
            case rel => exact ⟨y + 1, by omega, by go_num, HN.out⟩
            case measure => simp [intOf] <;> omega
          · obtain rfl : n = y := by omega
            have h9 := hB
            rw [pm_next] at h9
            go_wp2_with fail
            go_roundw
            case rel => exact ⟨x + 1, by omega, by go_num, h9⟩
            case measure => simp [intOf] <;> omega
      · obtain rfl : n = x := by omega
        have h9 := hB
        rw [pm_all] at h9
        have x0 := h9.out.cell 0
        have x1 := h9.out.cell 1
        have x2 := h9.out.cell 2
        have x3 := h9.out.cell 3
        have g0 := h9.res.frozen 0
        have g1 := h9.res.frozen 1
        have g2 := h9.res.frozen 2
        have g3 := h9.res.frozen 3
        have y0 := h9.res.cell 0
        have y1 := h9.res.cell 1
        have y2 := h9.res.cell 2
        have y3 := h9.res.cell 3
        have hb4 := put4_blk (x := .slice A k c) (y := .int .i64 M) (z := .slice D n e) (u := .slice Av n cv) h9.res
        have q0 := hb4.cell 0
        have q1 := hb4.cell 1
        have q2 := hb4.cell 2
        have q3 := hb4.cell 3
        unfold put4 put3 at q0 q1 q2 q3
        have hpw : Wr wr (put4 wr (w.heap.size + 1) (.slice A k c) (.int .i64 M) (.slice D n e) (.slice Av n cv)) (fun b => b = w.heap.size + 1) := put4_wr
        have hps : (put4 wr (w.heap.size + 1) (.slice A k c) (.int .i64 M) (.slice D n e) (.slice Av n cv)).heap.size = wr.heap.size := put4_size
        have HF := hide (show E2 (put4 wr (w.heap.size + 1) (.slice A k c) (.int .i64 M) (.slice D n e) (.slice Av n cv)) (.slice Av n cv) (mat n fun x y => num x y % M) (fun b => w.heap.size ≤ b ∧ b < (put4 wr (w.heap.size + 1) (.slice A k c) (.int .i64 M) (.slice D n e) (.slice Av n cv)).heap.size) from
          OwL.mono (kp2 _ _ _ _ _ h9.tab (fun b hb => hpw.block b (OwL.bd h9.tab b hb) (by have := hb.1; omega)) hpw.size) (fun b hb => ⟨by have := hb.1; omega, by have := OwL.bd h9.tab b hb; omega⟩) (fun b hb => hb.2))
        have HG := hide (put4_below (x := .slice A k c) (y := .int .i64 M) (z := .slice D n e) (u := .slice Av n cv) h9.below (show w.heap.size ≤ w.heap.size + 1 by omega))
        clear hpw hps
        go_wp2_with fail
        refine bodyPost_ret (v := .agg #[.slice A k c, .int .i64 M, .slice D n e, .slice Av n cv]) (by simp [results, Try.results65, go_sem, q0, q1, q2, q3]) rfl ?_
        exact ⟨_, rfl, HF.out, HG.out⟩
end Go.Proofs.Ythjlpgaoemdmkaa
