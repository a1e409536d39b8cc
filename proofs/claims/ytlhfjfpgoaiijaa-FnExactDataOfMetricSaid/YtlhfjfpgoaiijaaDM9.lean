
/- The walk of l12Fault on the data of a nondegenerate metric. -/
import Derived.Test.YtlhfjfpgoaiijaaDm7
import Derived.WalkLawsBesides
namespace Go.Proofs.Ytlhfjfpgoaiijaa
open Go Go.RowKit Grp
set_option linter.unusedSimpArgs false
set_option linter.unusedVariables false
set_option maxRecDepth 100000
set_option maxHeartbeats 16000000 in
theorem l12Fault_yes (w : World) (b off n c : Nat) (b1 o1 c1 : Nat → Nat) (f : Nat → Nat → Int) (A' : Option Addr) (c' : Nat) (ts : List Int) (V : Vq w w.heap.size n b off b1 o1 c1 f) (hT : Sl w w.heap.size A' n c' ts) (hn : n ≤ 16) (hp : 0 < n) (hc : n ≤ c) (hf : ∀ i j, i < n → j < n → InP (f i j)) (ht : ∀ x ∈ ts, InP x)
    (hd : DatOk n f (fun i => gi ts i)) (N : Int) (cf : Nat → Nat) (hcj : CjOk n f (fun i => gi ts i) N cf)
    (hcu : ∀ i j, i < n → j < n → tmS n (tmS n (uF f (fun i => gi ts i)) (uF f (fun i => gi ts i))) (uF f (fun i => gi ts i)) i j = gaS n f (fun i => gi ts i) * tmS n f f i j % 55441)
    (hcb : IsCb (cub n (nmS n f cf))) (hfl : flt (cub n (nmS n f cf)) = none) :
    Calls Try.prog 38 #[.agg #[.slice (some ⟨b, off, none⟩) n c, .slice A' n c']] w (Re w (.int .i64 (-1))) := by
  have HDK := hide hd
  have HCJ := hide hcj
  have HCU := hide hcu
  have HCB := hide hcb
  have HFL := hide hfl
  have HTS := hide ht
  obtain ⟨u, hu⟩ : ∃ u, uF f (fun i => gi ts i) = u := ⟨_, rfl⟩
  have hui : ∀ i j, InP (u i j) := fun i j => hu ▸ uF_in f _ i j
  rw [hu] at HCU
  have HU := hide hu
  clear hd hcj hcu hcb hfl hu ht
  go_enter Try.func38, Try.ntmps38
  go_wp2_with fail
  obtain ⟨W, hW⟩ : ∃ W, w.alloc (.cells #[.slice (some ⟨b, off, none⟩) n c, .slice A' n c'] 28) = W := ⟨_, rfl⟩
  have hbW : Below w.heap.size w W := by rw [← hW]; exact (by repeat (first | assumption | exact Below.refl _ _ | apply below_drewN | apply Below.drew | apply Below.alloc | apply Below.setCell | omega | (focus (simp; done)) | (focus (simp; omega))))
  have hszW : W.heap.size = w.heap.size + 1 := by rw [← hW]; simp
  have q0 : W.cell? ⟨w.heap.size, 0, none⟩ = some (.slice (some ⟨b, off, none⟩) n c) := by rw [← hW]; exact (Blk.new _ _ _).cell 0
  have q1 : W.cell? ⟨w.heap.size, 1, none⟩ = some (.slice A' n c') := by rw [← hW]; exact (Blk.new _ _ _).cell 1
  rw [hW]
  clear hW
  replace V := V.all hbW
  replace hT := (hT.below hbW).more hbW.size
  have hlW : w.heap.size < W.heap.size := by omega
  obtain ⟨bt', ot', rfl, hbt, hct⟩ := hT.at_ hp
  have HCT := hide hct
  have hcT := hT.cap
  clear hct
  go_wp2_with fail
  go_loopw [4] (fun i wr => ∃ x : Nat, x ≤ n ∧ i = .int .i64 x ∧ ∃ m, W.drewN m = wr) (fun i _ => n - (intOf i).toNat)
  case atStart => exact ⟨0, by omega, rfl, 0, rfl⟩
  case round =>
    obtain ⟨x, hx, rfl, m, rfl⟩ := hrel
    by_cases hlx : x < n
    · go_wp2_with fail
      go_loopw [5] (fun i wr => ∃ y : Nat, y ≤ n ∧ i = .int .i64 y ∧ ∃ m, W.drewN m = wr) (fun i _ => n - (intOf i).toNat)
      case atStart => exact ⟨0, by omega, rfl, m, rfl⟩
      case round =>
        obtain ⟨y, hy, rfl, m2, rfl⟩ := hrel
        by_cases hly : y < n
        · have a0 := (V.h1 x hlx).1
          have a1 := V.h2 x y hlx hly
          have a2 := (V.h1 y hly).1
          have a3 := V.h2 y x hly hlx
          have a4 := (V.h1 0 hp).1
          have a5 := V.h2 0 x hp hlx
          have a6 := V.h2 0 0 hp hp
          have a7 := HCT.out x hlx
          have a8 := HCT.out 0 hp
          have l0 := (V.h1 x hlx).2.2
          have l1 := (V.h1 y hly).2.2
          have l2 := (V.h1 0 hp).2.2
          simp only [Nat.add_zero] at a4 a6 a8
          rw [← HDK.out.sym x y hlx hly] at a3
          rw [HDK.out.one x hlx] at a5
          rw [HDK.out.one 0 hp] at a6
          rw [HDK.out.t0] at a8
          have h7 := HDK.out.tne x hlx
          obtain ⟨v, ev⟩ : ∃ v, f x y = v := ⟨_, rfl⟩
          obtain ⟨u, eu⟩ : ∃ u, gi ts x = u := ⟨_, rfl⟩
          rw [ev] at a1 a3
          rw [eu] at a7 h7
          have t1 : (v != v) = false := by simp
          have t2 : (u == 0) = false := by simp [h7]
          clear ev eu h7
          go_wp2
          go_quiet (fail)
          go_wp2
          go_roundw
          case rel => exact ⟨y + 1, by omega, by go_num, _, rfl⟩
          case measure => simp [intOf] <;> omega
        · go_wp2_with fail
          go_roundw
          case rel => exact ⟨x + 1, by omega, by go_num, _, rfl⟩
          case measure => simp [intOf] <;> omega
    · have HWh := hide (l12Whole_any (W.drewN m) b off n c b1 o1 c1 f (some ⟨bt', ot', none⟩) c' ts (V.dN m) (hT.drewN m) hn hp hc hf)
      rw [HCJ.out.wh] at HWh
      have hN1 := HCJ.out.n1
      have hB := below_drewN (Below.refl W.heap.size W) m
      go_wp2_with fail
      refine HWh.out.mono ?_
      rintro e w1 ⟨rfl, hb1⟩
      have hB1 : Below W.heap.size W w1 := hB.trans hb1
      have r0 := (hB1.cell (p := ⟨w.heap.size, 0, none⟩) hlW).trans q0
      have r1 := (hB1.cell (p := ⟨w.heap.size, 1, none⟩) hlW).trans q1
      have t1 : (N == 0) = false := by simp; omega
      have HCj := hide (l12Conjugation_yes w1 b off n c b1 o1 c1 f (some ⟨bt', ot', none⟩) c' ts (V.all hB1) ((hT.below hB1).more hB1.size) hn hp hc hf N cf HCJ.out)
      clear hB hb1 HWh
      go_wp2_with fail
      refine HCj.out.mono ?_
      rintro e w2 ⟨vj, rfl, oj, hb2⟩
      clear r0 r1 HCj t1
      have hB2 := hB1.trans (hb2.mono hB1.size)
      obtain ⟨Ac, cc, rfl, hJ⟩ := oj.sl (cjL_ok HCJ.out.lt hn (Nat.le_refl n))
      rw [cjL_len] at hJ ⊢
      clear hb2 hB1 oj
      have t2 : ((n : Int) == 0) = false := by simp; omega
      have hz2 := hB2.size
      go_wp2_with fail
      have hG0 : Grow E1 22 w2.heap.size (w2.alloc (.cells #[] 22)) (.slice (some ⟨w2.heap.size, 0, none⟩) 0 0) (rowsF n u 0) := Grow.start rfl (Nat.le_refl _)
      go_loopw [7, 8] (fun o i wr => ∃ (k : Nat) (vv : Value), k ≤ n ∧ i = .int .i64 k ∧ vv = o ∧ Grow E1 22 w2.heap.size wr vv (rowsF n u k) ∧ Below w2.heap.size w2 wr) (fun _ i _ => n - (intOf i).toNat)
      case atStart => exact ⟨0, _, by omega, rfl, rfl, hG0, (Below.refl _ _).alloc (Nat.le_refl _) _⟩
      case round =>
        clear hG0 t2
        obtain ⟨x, vv, hk, rfl, rfl, hG, hBe⟩ := hrel
        by_cases hlt : x < n
        · obtain ⟨w3, rfl⟩ : ∃ w3, w3 = wr := ⟨_, rfl⟩
          have hsz := hBe.size
          have hR0 : Ow (w3.alloc (.cells #[] 2)) w3.heap.size (.slice (some ⟨w3.heap.size, 0, none⟩) 0 0) ((List.range 0).map (u x)) := Ow.made' _ _ _ _ rfl rfl (Nat.le_refl _) rfl (Nat.zero_le _)
          go_wp2_with fail
          go_loopw [9, 10] (fun r j wx => ∃ (y : Nat) (rr : Value), y ≤ n ∧ j = .int .i64 y ∧ rr = r ∧ Ow wx w3.heap.size rr ((List.range y).map (u x)) ∧ Below w3.heap.size w3 wx) (fun _ j _ => n - (intOf j).toNat)
          case atStart => exact ⟨0, _, by omega, rfl, rfl, hR0, (Below.refl _ _).alloc (Nat.le_refl _) _⟩
          case round =>
            clear hR0
            obtain ⟨y, rr, hy, rfl, rfl, hO, hBx⟩ := hrel
            have hsx := hBx.size
            by_cases hly : y < n
            · have hBW := hB2.trans ((hBe.trans (hBx.mono hsz)).mono hz2)
              have T := V.keep hBW (Nat.le_refl _)
              have r0 := (hBW.cell (p := ⟨w.heap.size, 0, none⟩) hlW).trans q0
              have r1 := (hBW.cell (p := ⟨w.heap.size, 1, none⟩) hlW).trans q1
              have a0 := (T.h1 x hlt).1
              have a1 := T.h2 x y hlt hly
              have a2 := (hBW.cell (p := ⟨bt', ot' + y, none⟩) hbt).trans (HCT.out y hly)
              have k1 := (T.h1 x hlt).2.2
              have hm1 := mul_p (hf x y hlt hly) (HTS.out _ (gi_mem (show y < ts.length by rw [hT.len]; exact hly)))
              have hq0 : f x y * gi ts y % 55441 = u x y := by rw [← HU.out]; rfl
              obtain ⟨p, ep⟩ : ∃ p, f x y = p := ⟨_, rfl⟩
              obtain ⟨q, eq⟩ : ∃ q, gi ts y = q := ⟨_, rfl⟩
              rw [ep] at a1 hm1 hq0
              rw [eq] at a2 hm1 hq0
              have w1' : IntKind.i64.wrap (p * q) = p * q := wr64 _ ⟨by omega, by omega⟩
              have w2' : (p * q).tmod 55441 = p * q % 55441 := Int.tmod_eq_emod_of_nonneg (by omega)
              have HQ := hide (rowR_snoc (u x) y)
              obtain ⟨t, ht⟩ : ∃ t, u x y = t := ⟨_, rfl⟩
              rw [ht] at HQ hq0
              rw [hq0] at w2'
              have hti := hui x y
              rw [ht] at hti
              unfold InP at hti
              have w3' : IntKind.i64.wrap t = t := wr64 _ ⟨by omega, by omega⟩
              have hln : ((List.range y).map (u x)).length = y := by simp
              have hlx' : (x : Int) < (n : Int) := by omega
              have hly' : (y : Int) < (n : Int) := by omega
              have hO9 := hO
              have hB9 := hBx
              clear ep eq ht hm1 hq0 hti T hBW hO hBx
              go_wp2_with fail
              refine wp_region_otc (.one 0 (.one 1 (.one 2 (.one 3 (.one 4 (.one 5 (.one 6 (.one 7 (.one 8 (.one 9 (.one 10 (.one 11 (.one 12 (.one 13 (.one 14 (.one 15 (.one 16 (.one 17 (.one 18 .nil))))))))))))))))))) 17 (fun w' => w'.cell? ⟨w.heap.size, 0, none⟩ = some (.slice (some ⟨b, off, none⟩) n c) ∧ w'.cell? ⟨w.heap.size, 1, none⟩ = some (.slice (some ⟨bt', ot', none⟩) n c') ∧ w'.cell? ⟨b, off + x, none⟩ = some (.slice (some ⟨b1 x, o1 x, none⟩) n (c1 x)) ∧ w'.cell? ⟨b1 x, o1 x + y, none⟩ = some (.int .i64 p) ∧ w'.cell? ⟨bt', ot' + y, none⟩ = some (.int .i64 q)) (by kernel_rfl) (by kernel_rfl) (by kernel_rfl) (fun _ _ _ _ _ h => h) ⟨r0, r1, a0, a1, a2⟩ ?_
              repeat (apply ot_tk rfl (by rfl) (by rfl) (by rfl); (focus (rintro wx ⟨c1', c2', c3', c4', c5'⟩; go_simp; (try with_reducible rfl))); (try simp only [Act.put, List.setIfInBounds_toArray, List.set_cons_zero, List.set_cons_succ]))
              refine ot_do rfl (by rfl) (by rfl) (fun K hK => ?_)
              go_simp
              have hBa : Below wr.heap.size wr (wr.drew.alloc (.cells #[.int .i64 t] 2)) := ((Below.refl _ _).drew).alloc (Nat.le_refl _) _
              have hOa := hO9.below hBa
              have hcl : ∀ (p : Addr) v, wr.cell? p = some v → (wr.drew.alloc (.cells #[.int .i64 t] 2)).cell? p = some v := fun p v h => (hBa.cell (World.block_lt_of_cell? _ _ h)).trans h
              refine hK.out _ _ (fun _ => ⟨hcl _ _ r0, hcl _ _ r1, hcl _ _ a0, hcl _ _ a1, hcl _ _ a2⟩) ?_
              (try simp only [Act.put, List.setIfInBounds_toArray, List.set_cons_zero, List.set_cons_succ])
              clear hK K
              refine ot_do rfl (by rfl) (by rfl) (fun K hK => ?_)
              refine wp_push _ _ _ (by rfl) w3.heap.size rr _ (by rfl) hOa t wr.heap.size _ (by rfl) (Blk.new _ _ _) (by rw [hln]; omega) (by simp; omega) (by simp) ?_
              intro g9 cap w7 hP
              have hB7 := hB9.trans ((hBa.mono hsx).trans (hP.below hOa (by simp; omega)))
              have hO7 := hP.own
              rw [HQ.out, hln] at hO7
              rw [hln]
              refine hK.out _ _ (fun h => absurd h (by omega)) ?_
              (try simp only [Act.put, List.setIfInBounds_toArray, List.set_cons_zero, List.set_cons_succ])
              clear hK K
              refine ot_do rfl (by rfl) (by rfl) (fun K hK => ?_)
              go_simp
              refine hK.out _ _ (fun h => absurd h (by omega)) ?_
              (try simp only [Act.put, List.setIfInBounds_toArray, List.set_cons_zero, List.set_cons_succ])
              clear hK K
              refine ot_nil ?_
              clear hP hOa hBa hO9 hB9 r0 r1 a0 a1 a2
              go_wp2_with fail
              go_roundw
              case rel => exact ⟨y + 1, _, by omega, by go_num, rfl, hO7, hB7⟩
              case measure => simp [intOf] <;> omega
            · obtain rfl : n = y := by omega
              have hG1 := hG.bel kp1 hBx
              obtain ⟨Am, cm, rfl⟩ := hO.val
              have hE := E1.of_owq hO (rowR_ok fun j _ => hui x j)
              rw [List.length_map, List.length_range] at hO hE ⊢
              have hbw : Below wr.heap.size wr (wr.alloc (.cells #[.slice Am n cm] 22)) := (Below.refl _ _).alloc (Nat.le_refl _) _
              have hEm2 := E1.below hE hbw
              have hlen : (rowsF n u x).length ≤ 1048576 := by rw [rowsF_len]; omega
              have hbx := hBe.trans (hBx.mono hsz)
              have hsy := hbx.size
              go_wp2_with (at_builtin; refine list_pushG kp1 26 22 _ 24 Try.underlying26 rows_info (by omega) rfl _ rfl _ _ rfl w2.heap.size vv _ rfl w3 hG (hBx.trans (hbw.mono hsx)) (.slice Am n cm) _ _ hEm2 (fun b hb => ⟨hb.1, by have := hb.2; simp; omega⟩) rfl wr.heap.size _ rfl (Blk.new _ _ _) hlen hsz (by simp) ?_; intro g9 cap w4 hG4 hB4 hW4 hg4 hg5)
              have hby := (hbx.trans (hbw.mono hsy)).trans hB4
              rw [rowsF_succ, rowsF_len] at hG4
              go_roundw
              case rel => exact ⟨x + 1, _, by omega, by go_num, rfl, by (try rw [rowsF_len]); exact hG4, hby⟩
              case measure => simp [intOf] <;> omega
        · obtain rfl : n = x := by omega
          have hEu : E2 wr vv (mat n u) _ := hG.toL
          obtain ⟨bu, ou, cu, rfl, hcu⟩ := sq_form hEu hp
          obtain ⟨bu1, ou1, cu1, U⟩ := sq_view hEu hp
          have hBW := hB2.trans (hBe.mono hz2)
          obtain ⟨w5, rfl⟩ : ∃ w5, w5 = wr := ⟨_, rfl⟩
          have V5 := V.all hBW
          have T5 := (hT.below hBW).more hBW.size
          have J5 := (hJ.below hBe).more hBe.size
          have r0 := (hBW.cell (p := ⟨w.heap.size, 0, none⟩) hlW).trans q0
          have r1 := (hBW.cell (p := ⟨w.heap.size, 1, none⟩) hlW).trans q1
          have l0 : w.heap.size < w5.heap.size := Nat.lt_of_lt_of_le hlW hBW.size
          have HC1 := hide (fun wd (h : Below w5.heap.size w5 wd) => l12Times_any wd bu ou n cu bu1 ou1 cu1 u bu ou cu bu1 ou1 cu1 u (U.all h) (U.all h) hn hp hcu hcu (fun i j _ _ => hui i j) (fun i j _ _ => hui i j))
          have HC3 := hide (fun wd (h : Below w5.heap.size w5 wd) => l12Times_any wd b off n c b1 o1 c1 f b off c b1 o1 c1 f (V5.all h) (V5.all h) hn hp hc hc hf hf)
          have HC4 := hide (fun wd (h : Below w5.heap.size w5 wd) => l12Gauss_any wd b off n c b1 o1 c1 f (some ⟨bt', ot', none⟩) c' ts (V5.all h) ((T5.below h).more h.size) hn hp hc hf HTS.out)
          clear hEu hG hBe
          go_wp2_with fail
          refine wp_region_be [0, 1, 3, 5, 6, 7, 8, 10, 11, 12, 2, 4, 9, 13, 14, 15, 16] 16 w5.heap.size w5 (by kernel_rfl) (by kernel_rfl) (by kernel_rfl) (fun _ _ _ _ _ h => h) (Below.refl _ _) (fun wd hBe => ?_)
          repeat (first | (apply ord_tk rfl (by rfl) (by rfl) (by rfl); (focus (intro wx hSw; have s0 := (hSw.cell (p := ⟨w.heap.size, 0, none⟩) l0).trans r0; have s1 := (hSw.cell (p := ⟨w.heap.size, 1, none⟩) l0).trans r1; go_simp; (try with_reducible rfl))); (try simp only [Act.put, List.setIfInBounds_toArray, List.set_cons_zero, List.set_cons_succ])) | (apply ord_skip rfl (by rfl) (by rfl) (fun _ => hBe); (try simp only [Act.put, List.setIfInBounds_toArray, List.set_cons_zero, List.set_cons_succ])))
          refine ord_do rfl (by rfl) (by rfl) (fun K hK => ?_)
          go_simp
          refine (HC1.out _ hBe).mono ?_
          rintro e wd' ⟨vv, rfl, hE, hwd⟩
          replace hBe := hBe.trans (hwd.mono hBe.size)
          refine hK.out _ _ (fun _ => hBe) ?_
          (try simp only [Act.put, List.setIfInBounds_toArray, List.set_cons_zero, List.set_cons_succ])
          clear hK K
          obtain ⟨bp, op, cp, rfl, hcp⟩ := sq_form hE hp
          obtain ⟨bp1, op1, cp1, P⟩ := sq_view hE hp
          clear hE hwd
          repeat (first | (apply ord_tk rfl (by rfl) (by rfl) (by rfl); (focus (intro wx hSw; have s0 := (hSw.cell (p := ⟨w.heap.size, 0, none⟩) l0).trans r0; have s1 := (hSw.cell (p := ⟨w.heap.size, 1, none⟩) l0).trans r1; go_simp; (try with_reducible rfl))); (try simp only [Act.put, List.setIfInBounds_toArray, List.set_cons_zero, List.set_cons_succ])) | (apply ord_skip rfl (by rfl) (by rfl) (fun _ => hBe); (try simp only [Act.put, List.setIfInBounds_toArray, List.set_cons_zero, List.set_cons_succ])))
          refine ord_do rfl (by rfl) (by rfl) (fun K hK => ?_)
          go_simp
          refine ((l12Times_any _ bp op n cp bp1 op1 cp1 _ bu ou cu bu1 ou1 cu1 u P (U.all hBe) hn hp hcp hcu (fun i j _ _ => tmS_in _ _ _ i j) (fun i j _ _ => hui i j))).mono ?_
          rintro e wd' ⟨vv, rfl, hE, hwd⟩
          replace hBe := hBe.trans (hwd.mono hBe.size)
          refine hK.out _ _ (fun _ => hBe) ?_
          (try simp only [Act.put, List.setIfInBounds_toArray, List.set_cons_zero, List.set_cons_succ])
          clear hK K
          obtain ⟨bx, ox, cx, rfl, hcx⟩ := sq_form hE hp
          obtain ⟨bx1, ox1, cx1, X⟩ := sq_view hE hp
          clear hE hwd P hcp
          repeat (first | (apply ord_tk rfl (by rfl) (by rfl) (by rfl); (focus (intro wx hSw; have s0 := (hSw.cell (p := ⟨w.heap.size, 0, none⟩) l0).trans r0; have s1 := (hSw.cell (p := ⟨w.heap.size, 1, none⟩) l0).trans r1; go_simp; (try with_reducible rfl))); (try simp only [Act.put, List.setIfInBounds_toArray, List.set_cons_zero, List.set_cons_succ])) | (apply ord_skip rfl (by rfl) (by rfl) (fun _ => hBe); (try simp only [Act.put, List.setIfInBounds_toArray, List.set_cons_zero, List.set_cons_succ])))
          refine ord_do rfl (by rfl) (by rfl) (fun K hK => ?_)
          go_simp
          refine (HC3.out _ hBe).mono ?_
          rintro e wd' ⟨vv, rfl, hE, hwd⟩
          replace hBe := hBe.trans (hwd.mono hBe.size)
          refine hK.out _ _ (fun _ => hBe) ?_
          (try simp only [Act.put, List.setIfInBounds_toArray, List.set_cons_zero, List.set_cons_succ])
          clear hK K
          obtain ⟨by_, oy, cy, rfl, hcy⟩ := sq_form hE hp
          obtain ⟨by1, oy1, cy1, Y⟩ := sq_view hE hp
          replace X := X.all hwd
          clear hE hwd
          repeat (first | (apply ord_tk rfl (by rfl) (by rfl) (by rfl); (focus (intro wx hSw; have s0 := (hSw.cell (p := ⟨w.heap.size, 0, none⟩) l0).trans r0; have s1 := (hSw.cell (p := ⟨w.heap.size, 1, none⟩) l0).trans r1; go_simp; (try with_reducible rfl))); (try simp only [Act.put, List.setIfInBounds_toArray, List.set_cons_zero, List.set_cons_succ])) | (apply ord_skip rfl (by rfl) (by rfl) (fun _ => hBe); (try simp only [Act.put, List.setIfInBounds_toArray, List.set_cons_zero, List.set_cons_succ])))
          refine ord_do rfl (by rfl) (by rfl) (fun K hK => ?_)
          go_simp
          refine (HC4.out _ hBe).mono ?_
          rintro e wd' ⟨rfl, hwd⟩
          replace hBe := hBe.trans (hwd.mono hBe.size)
          replace X := X.all hwd
          replace Y := Y.all hwd
          refine hK.out _ _ (fun _ => hBe) ?_
          (try simp only [Act.put, List.setIfInBounds_toArray, List.set_cons_zero, List.set_cons_succ])
          clear hK K
          repeat (first | (apply ord_tk rfl (by rfl) (by rfl) (by rfl); (focus (intro wx hSw; have s0 := (hSw.cell (p := ⟨w.heap.size, 0, none⟩) l0).trans r0; have s1 := (hSw.cell (p := ⟨w.heap.size, 1, none⟩) l0).trans r1; go_simp; (try with_reducible rfl))); (try simp only [Act.put, List.setIfInBounds_toArray, List.set_cons_zero, List.set_cons_succ])) | (apply ord_skip rfl (by rfl) (by rfl) (fun _ => hBe); (try simp only [Act.put, List.setIfInBounds_toArray, List.set_cons_zero, List.set_cons_succ])))
          (repeat (refine ord_do rfl (by rfl) (by rfl) (fun K hK => ?_); go_simp; refine hK.out _ _ (fun h => absurd h (by omega)) ?_; (try simp only [Act.put, List.setIfInBounds_toArray, List.set_cons_zero, List.set_cons_succ]); clear hK K))
          refine ord_nil ?_
          have V9 := V5.all hBe
          have T9 := (T5.below hBe).more hBe.size
          have J9 := (J5.below hBe).more hBe.size
          have r0' := (hBe.cell (p := ⟨w.heap.size, 0, none⟩) l0).trans r0
          have r1' := (hBe.cell (p := ⟨w.heap.size, 1, none⟩) l0).trans r1
          have hB9 := hBW.trans (hBe.mono hBW.size)
          have hgi := gaS_in n f (fun i => gi ts i)
          obtain ⟨ga, hga⟩ : ∃ ga, gaS n f (fun i => gi ts i) = ga := ⟨_, rfl⟩
          rw [hga] at hgi HCU ⊢
          clear hga hwd hBe V5 T5 J5 r0 r1 l0 HC1 HC3 HC4 hBW
          obtain ⟨wE, rfl⟩ : ∃ wE, wE = wd' := ⟨_, rfl⟩
          go_wp2_with fail
          go_loopw [14] (fun i wr => ∃ x : Nat, x ≤ n ∧ i = .int .i64 x ∧ ∃ m, wE.drewN m = wr) (fun i _ => n - (intOf i).toNat)
          case atStart => exact ⟨0, by omega, rfl, 0, rfl⟩
          case round =>
            obtain ⟨x, hx, rfl, m, rfl⟩ := hrel
            by_cases hlx : x < n
            · go_wp2_with fail
              go_loopw [15] (fun i wr => ∃ y : Nat, y ≤ n ∧ i = .int .i64 y ∧ ∃ m, wE.drewN m = wr) (fun i _ => n - (intOf i).toNat)
              case atStart => exact ⟨0, by omega, rfl, m, rfl⟩
              case round =>
                obtain ⟨y, hy, rfl, m2, rfl⟩ := hrel
                by_cases hly : y < n
                · have a0 := (X.h1 x hlx).1
                  have a1 := X.h2 x y hlx hly
                  have a2 := (Y.h1 x hlx).1
                  have a3 := Y.h2 x y hlx hly
                  have k0 := (X.h1 x hlx).2.2
                  have k1 := (Y.h1 x hlx).2.2
                  have hsq := tmS_in n f f x y
                  have hcu2 := HCU.out x y hlx hly
                  obtain ⟨v, ev⟩ : ∃ v, tmS n f f x y = v := ⟨_, rfl⟩
                  rw [ev] at a3 hsq hcu2
                  rw [hcu2] at a1
                  have hm := mul_p hgi hsq
                  have w1' : IntKind.i64.wrap (ga * v) = ga * v := wr64 _ ⟨by omega, by omega⟩
                  have w2' : (ga * v).tmod 55441 = ga * v % 55441 := Int.tmod_eq_emod_of_nonneg (by omega)
                  have hr := inP_mod (ga * v)
                  unfold InP at hr
                  have w3' : IntKind.i64.wrap (ga * v % 55441) = ga * v % 55441 := wr64 _ ⟨by omega, by omega⟩
                  have t1 : (ga * v % 55441 != ga * v % 55441) = false := by simp
                  clear ev hcu2 hsq hm hr
                  go_wp2
                  go_quiet (fail)
                  go_wp2
                  go_roundw
                  case rel => exact ⟨y + 1, by omega, by go_num, _, rfl⟩
                  case measure => simp [intOf] <;> omega
                · go_wp2_with fail
                  go_roundw
                  case rel => exact ⟨x + 1, by omega, by go_num, _, rfl⟩
                  case measure => simp [intOf] <;> omega
            · have HNm := hide (l12Numbers_any (wE.drewN m) b off n c b1 o1 c1 f (some ⟨bt', ot', none⟩) c' ts (V9.dN m) (T9.drewN m) hn hp hc hf Ac cc cf (J9.drewN m) HCJ.out.lt)
              have hBm := below_drewN (Below.refl wE.heap.size wE) m
              clear V9 T9 J9 X Y
              go_wp2_with fail
              refine HNm.out.mono ?_
              rintro e wF ⟨vr, rfl, hE, hbF⟩
              obtain ⟨Ar', cr, rfl, hS3⟩ := E3.sl3 hE
              have HIs := hide (l03Is_ok wF _ _ _ _ hS3 HCB.out HFL.out)
              clear hE hS3 HNm r0' r1'
              go_wp2_with fail
              refine HIs.out.mono ?_
              rintro e wG ⟨rfl, hbG⟩
              go_wp2_with fail
              go_ret
              exact ⟨rfl, hbW.trans ((hB9.trans (((hBm.trans hbF).trans (hbG.mono (Nat.le_trans hBm.size hbF.size))).mono hB9.size)).mono hbW.size)⟩
end Go.Proofs.Ytlhfjfpgoaiijaa
