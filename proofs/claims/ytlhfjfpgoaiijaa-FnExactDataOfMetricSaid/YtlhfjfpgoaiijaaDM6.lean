
/- The walk of l12Numbers: the fusion numbers that the reference takes out of data. -/
import Derived.Test.YtlhfjfpgoaiijaaDM4
import Derived.Test.YtlhfjfpgoaiijaaCB1
import Derived.Test.YtlhfjfpgoaiijaaNG3
import Derived.Test.YtlhfjfpgoaiijaaOtc
import Derived.WalkLawsBesides
namespace Go.Proofs.Ytlhfjfpgoaiijaa
open Go Go.RowKit Grp
set_option linter.unusedSimpArgs false
set_option linter.unusedVariables false
set_option maxRecDepth 100000
theorem ivS_in (a : Int) : InP (ivS a) := by unfold ivS InP; have := pwr_lt a.toNat 55439; omega
theorem inS_in (n : Nat) (f : Nat → Nat → Int) (l : Nat) : InP (inS n f l) := inP_mod _
theorem boS_in (n : Nat) (f : Nat → Nat → Int) (i j l : Nat) : InP (boS n f i j l) := inP_mod _
theorem nmS_in (n : Nat) (f : Nat → Nat → Int) (c : Nat → Nat) (i j k : Nat) : InP (nmS n f c i j k) := inP_mod _
theorem inP_ok {x : Int} (h : InP x) : i64ok x := by unfold InP at h; exact ⟨by omega, by omega⟩
theorem wr_one (w : World) (g k : Nat) (u : Value) : Wr w (w.setCell ⟨g, k, none⟩ u) (fun b => b = g) := ⟨rfl, rfl, rfl, by simp [World.setCell], fun b' _ hn => Below.heap_setCell _ ⟨g, k, none⟩ _ b' (fun e => hn e)⟩
theorem pc_snoc {n : Nat} {f : Nat → Nat → Nat → Int} : pc n f 0 0 0 = List.replicate n (List.replicate n (List.replicate n 0)) := pc_zero
/-- The cube under construction beside what was there before. -/
structure NmI (W5 : World) (lo hi : Nat) (vo : Value) (t : Tb) (wx : World) : Prop where
  e : E3 wx vo t (fun b => lo ≤ b ∧ b < hi)
  w : Wr W5 wx (fun b => (lo ≤ b ∧ b < hi) ∨ W5.heap.size ≤ b)
theorem NmI.bel {W5 wx wy : World} {lo hi : Nat} {vo : Value} {t : Tb} (h : NmI W5 lo hi vo t wx) (hb : Below wx.heap.size wx wy) : NmI W5 lo hi vo t wy := ⟨E3.below h.e hb, h.w.trans (Wr.of_below hb)⟩
theorem NmI.low {W5 wx : World} {lo hi B : Nat} {vo : Value} {t : Tb} (h : NmI W5 lo hi vo t wx) (hB : B ≤ lo) (hB2 : B ≤ W5.heap.size) : Below B W5 wx := h.w.below (fun b hb => by rcases hb with hb | hb <;> omega) hB2
set_option maxHeartbeats 16000000 in
theorem l12Numbers_any (w : World) (b off n c : Nat) (b1 o1 c1 : Nat → Nat) (f : Nat → Nat → Int) (A' : Option Addr) (c' : Nat) (ts : List Int) (V : Vq w w.heap.size n b off b1 o1 c1 f) (hT : Sl w w.heap.size A' n c' ts) (hn : n ≤ 16) (hp : 0 < n) (hc : n ≤ c) (hf : ∀ i j, i < n → j < n → InP (f i j))
    (Ac : Option Addr) (cc : Nat) (cf : Nat → Nat) (hC : Sl w w.heap.size Ac n cc (cjL cf n)) (hcf : ∀ i, i < n → cf i < n) :
    Calls Try.prog 59 #[.agg #[.slice (some ⟨b, off, none⟩) n c, .slice A' n c'], .slice Ac n cc] w (MkE E3 w (cub n (nmS n f cf))) := by
  go_enter Try.func59, Try.ntmps59
  go_wp2_with fail
  obtain ⟨W, hW⟩ : ∃ W, w.alloc (.cells #[.slice (some ⟨b, off, none⟩) n c, .slice A' n c'] 28) = W := ⟨_, rfl⟩
  have hbW : Below w.heap.size w W := by rw [← hW]; exact (by repeat (first | assumption | exact Below.refl _ _ | apply below_drewN | apply Below.drew | apply Below.alloc | apply Below.setCell | omega | (focus (simp; done)) | (focus (simp; omega))))
  have hszW : W.heap.size = w.heap.size + 1 := by rw [← hW]; simp
  have q0 : W.cell? ⟨w.heap.size, 0, none⟩ = some (.slice (some ⟨b, off, none⟩) n c) := by rw [← hW]; exact (Blk.new _ _ _).cell 0
  have q1 : W.cell? ⟨w.heap.size, 1, none⟩ = some (.slice A' n c') := by rw [← hW]; exact (Blk.new _ _ _).cell 1
  rw [hW]
  clear hW
  replace V := V.all hbW
  replace hT := (hT.below hbW).more hbW.size
  replace hC := (hC.below hbW).more hbW.size
  have hlW : w.heap.size < W.heap.size := by omega
  go_wp2_with fail
  refine (l12Whole_any W b off n c b1 o1 c1 f A' c' ts V hT hn hp hc hf).mono ?_
  rintro e w1 ⟨rfl, hb1⟩
  go_wp2_with fail
  refine (l01Inv_any w1 _ (whS_in n f)).mono ?_
  rintro e w2 ⟨rfl, m, rfl⟩
  have hB2 := below_drewN hb1 m
  have hwI := ivS_in (whS n f)
  obtain ⟨wh, hwh⟩ : ∃ wh, ivS (whS n f) = wh := ⟨_, rfl⟩
  rw [hwh] at hwI ⊢
  have HWH := hide hwh
  obtain ⟨w2, hw2⟩ : ∃ w2, w1.drewN m = w2 := ⟨_, rfl⟩
  rw [hw2] at hB2 ⊢
  clear hw2 hwh hb1
  go_wp2_with fail
  refine (l06Empty_any w2 n (by omega)).mono ?_
  rintro e w3 ⟨vo, rfl, hG, hb3⟩
  have hE0 : E3 w3 vo (pc n (nmS n f cf) 0 0 0) (fun b => w2.heap.size ≤ b ∧ b < w3.heap.size) := by rw [pc_snoc]; exact hG.toL
  have hB3 := hB2.trans (hb3.mono hB2.size)
  have hz2 := hB2.size
  have hz3 := hb3.size
  clear hG hb3 hB2
  have hI0 : Ow (w3.alloc (.cells #[] 2)) w3.heap.size (.slice (some ⟨w3.heap.size, 0, none⟩) 0 0) ((List.range 0).map (inS n f)) := Ow.made' _ _ _ _ rfl rfl (Nat.le_refl _) rfl (Nat.zero_le _)
  go_wp2_with fail
  go_loopw [8, 9] (fun o i wr => ∃ (k : Nat) (vi : Value), k ≤ n ∧ i = .int .i64 k ∧ vi = o ∧ Ow wr w3.heap.size vi ((List.range k).map (inS n f)) ∧ Below w3.heap.size w3 wr) (fun _ i _ => n - (intOf i).toNat)
  case atStart => exact ⟨0, _, by omega, rfl, rfl, hI0, (Below.refl _ _).alloc (Nat.le_refl _) _⟩
  case round =>
    clear hI0
    obtain ⟨k, vi, hk, rfl, rfl, hI, hBe⟩ := hrel
    have hBW := hB3.trans (hBe.mono (Nat.le_trans hz2 hz3))
    have r0 := (hBW.cell (p := ⟨w.heap.size, 0, none⟩) hlW).trans q0
    have hz4 := hBe.size
    by_cases hlt : k < n
    · have T := V.keep hBW (Nat.le_refl _)
      have a0 := (T.h1 0 hp).1
      have a1 := T.h2 0 k hp hlt
      have a2 := (T.h1 0 hp).2.2
      simp only [Nat.add_zero] at a0
      have hx := hf 0 k hp hlt
      obtain ⟨x, ex⟩ : ∃ x, f 0 k = x := ⟨_, rfl⟩
      rw [ex] at a1 hx
      have hy := ivS_in x
      have hm := mul_p hy hwI
      obtain ⟨y, ey⟩ : ∃ y, ivS x = y := ⟨_, rfl⟩
      have HY := hide ey
      have hm4 := inP_mod (y * wh)
      rw [ey] at hy hm
      have HQ := hide (show (List.range k).map (inS n f) ++ [y * wh % 55441] = (List.range (k + 1)).map (inS n f) by
        rw [← rowR_snoc]; unfold inS; rw [ex, ey, HWH.out])
      unfold InP at hm4
      have w1' : IntKind.i64.wrap (y * wh) = y * wh := wr64 _ ⟨by omega, by omega⟩
      have w2' : (y * wh).tmod 55441 = y * wh % 55441 := Int.tmod_eq_emod_of_nonneg (by omega)
      clear ex ey
      go_wp2_with fail
      refine (l01Inv_any _ _ hx).mono ?_
      rintro e w' ⟨rfl, m4, rfl⟩
      rw [HY.out]
      have hI4 := hI.drewN m4
      have hB4 := below_drewN hBe m4
      have hz5 : w3.heap.size ≤ (wr.drewN m4).heap.size := hz4
      obtain ⟨w4, hw4⟩ : ∃ w4, wr.drewN m4 = w4 := ⟨_, rfl⟩
      rw [hw4] at hI4 hB4 hz5 ⊢
      obtain ⟨q, hq⟩ : ∃ q, y * wh % 55441 = q := ⟨_, rfl⟩
      rw [hq] at w2' HQ
      have hln : ((List.range k).map (inS n f)).length = k := by simp
      clear hw4 hq hI hBe hBW r0 T a0 a1 a2 hm4 hm hx hy
      go_wp2_with (at_builtin; refine list_push _ rfl _ _ rfl w3.heap.size _ _ rfl (hI4.alloc _) q w4.heap.size _ rfl (Blk.new _ _ _) (by rw [hln]; omega) (by simp; omega) (by simp) ?_; intro g9 cap w6 hP)
      have hb6 := (hB4.alloc hz5 _).trans (hP.below (hI4.alloc _) (by simp; omega))
      have hO6 := hP.own
      rw [HQ.out, List.length_map, List.length_range] at hO6
      go_roundw
      case rel => exact ⟨k + 1, _, by omega, by go_num, rfl, by (try rw [List.length_map, List.length_range]); exact hO6, hb6⟩
      case measure => simp [intOf] <;> omega
    · obtain rfl : n = k := by omega
      obtain ⟨gI, cI, rfl, i1, i2, i3⟩ : ∃ g cap, vi = .slice (some ⟨g, 0, none⟩) ((List.range n).map (inS n f)).length cap ∧ w3.heap.size ≤ g ∧ g < wr.heap.size ∧ ((List.range n).map (inS n f)).length ≤ cap := by
        rcases hI.form with ⟨_, h9⟩ | h9
        · have := congrArg List.length h9; simp at this; omega
        · exact h9
      rw [List.length_map, List.length_range] at hI i3 ⊢
      obtain ⟨W5, rfl⟩ : ∃ W5, W5 = wr := ⟨_, rfl⟩
      have hN0 : NmI W5 w2.heap.size w3.heap.size vo (pc n (nmS n f cf) 0 0 0) W5 := ⟨E3.below hE0 hBe, Wr.refl _ _⟩
      have hzW : W.heap.size ≤ W5.heap.size := hBW.size
      have HIW := hide (fun wx t (h : NmI W5 w2.heap.size w3.heap.size vo t wx) => h.w.own hI (fun b hb hf => by
        have e : gI = b := by simpa [Value.ownBlock] using hb
        subst e; omega))
      have HLO := hide (fun wx t (h : NmI W5 w2.heap.size w3.heap.size vo t wx) => hBW.trans (h.low hz2 hzW))
      clear hE0 hBe hBW r0 hI hB3
      go_wp2_with fail
      go_loopw [10] (fun i wx => ∃ x : Nat, x ≤ n ∧ i = .int .i64 x ∧ NmI W5 w2.heap.size w3.heap.size vo (pc n (nmS n f cf) x 0 0) wx) (fun i _ => n - (intOf i).toNat)
      case atStart => exact ⟨0, by omega, rfl, hN0⟩
      case round =>
        clear hN0
        obtain ⟨x, hx, rfl, hN⟩ := hrel
        by_cases hlx : x < n
        · go_wp2_with fail
          go_loopw [11] (fun i wx => ∃ y : Nat, y ≤ n ∧ i = .int .i64 y ∧ NmI W5 w2.heap.size w3.heap.size vo (pc n (nmS n f cf) x y 0) wx) (fun i _ => n - (intOf i).toNat)
          case atStart => exact ⟨0, by omega, rfl, hN⟩
          case round =>
            clear hN
            obtain ⟨y, hy, rfl, hN⟩ := hrel
            by_cases hly : y < n
            · obtain ⟨W6, rfl⟩ : ∃ W6, W6 = wr := ⟨_, rfl⟩
              have hz6 := hN.w.size
              have hO0 : Ow (W6.alloc (.cells #[] 2)) W6.heap.size (.slice (some ⟨W6.heap.size, 0, none⟩) 0 0) ((List.range 0).map (boS n f x y)) := Ow.made' _ _ _ _ rfl rfl (Nat.le_refl _) rfl (Nat.zero_le _)
              go_wp2_with fail
              go_loopw [12, 13] (fun o i wx => ∃ (l : Nat) (vb : Value), l ≤ n ∧ i = .int .i64 l ∧ vb = o ∧ Ow wx W6.heap.size vb ((List.range l).map (boS n f x y)) ∧ Below W6.heap.size W6 wx) (fun _ i _ => n - (intOf i).toNat)
              case atStart => exact ⟨0, _, by omega, rfl, rfl, hO0, (Below.refl _ _).alloc (Nat.le_refl _) _⟩
              case round =>
                clear hO0
                obtain ⟨l, vb, hl, rfl, rfl, hO, hB6⟩ := hrel
                have hs6 := hB6.size
                have hNx := hN.bel hB6
                have hBW := HLO.out _ _ hNx
                by_cases hll : l < n
                · have T := V.keep hBW (Nat.le_refl _)
                  have r0 := (hBW.cell (p := ⟨w.heap.size, 0, none⟩) hlW).trans q0
                  have a0 := (T.h1 x hlx).1
                  have a1 := T.h2 x l hlx hll
                  have a2 := (T.h1 y hly).1
                  have a3 := T.h2 y l hly hll
                  have a4 := (HIW.out _ _ hNx).cell (by simp) hll
                  rw [gi_row hll] at a4
                  have k1 := (T.h1 x hlx).2.2
                  have k2 := (T.h1 y hly).2.2
                  have hm1 := mul_p (hf x l hlx hll) (hf y l hly hll)
                  have hu := inS_in n f l
                  obtain ⟨p, ep⟩ : ∃ p, f x l = p := ⟨_, rfl⟩
                  obtain ⟨q, eq⟩ : ∃ q, f y l = q := ⟨_, rfl⟩
                  obtain ⟨u, eu⟩ : ∃ u, inS n f l = u := ⟨_, rfl⟩
                  rw [ep] at a1 hm1
                  rw [eq] at a3 hm1
                  rw [eu] at a4 hu
                  have hr := inP_mod (p * q)
                  have w1' : IntKind.i64.wrap (p * q) = p * q := wr64 _ ⟨by omega, by omega⟩
                  have w2' : (p * q).tmod 55441 = p * q % 55441 := Int.tmod_eq_emod_of_nonneg (by omega)
                  obtain ⟨r, er⟩ : ∃ r, p * q % 55441 = r := ⟨_, rfl⟩
                  rw [er] at hr w2'
                  have hm2 := mul_p hr hu
                  unfold InP at hr
                  have w3' : IntKind.i64.wrap r = r := wr64 _ ⟨by omega, by omega⟩
                  have w4' : IntKind.i64.wrap (r * u) = r * u := wr64 _ ⟨by omega, by omega⟩
                  have w5' : (r * u).tmod 55441 = r * u % 55441 := Int.tmod_eq_emod_of_nonneg (by omega)
                  have hv := inP_mod (r * u)
                  unfold InP at hv
                  have w6' : IntKind.i64.wrap (r * u % 55441) = r * u % 55441 := wr64 _ ⟨by omega, by omega⟩
                  have HQ := hide (show (List.range l).map (boS n f x y) ++ [r * u % 55441] = (List.range (l + 1)).map (boS n f x y) by
                    rw [← rowR_snoc]; unfold boS; rw [ep, eq, eu, er])
                  obtain ⟨t, ht⟩ : ∃ t, r * u % 55441 = t := ⟨_, rfl⟩
                  rw [ht] at w5' w6' HQ
                  have hln : ((List.range l).map (boS n f x y)).length = l := by simp
                  have hlx' : (x : Int) < (n : Int) := by omega
                  have hly' : (y : Int) < (n : Int) := by omega
                  have hll' : (l : Int) < (n : Int) := by omega
                  have hO9 := hO
                  have hB9 := hB6
                  clear ep eq eu er ht hv hm1 hm2 hu hr T hNx hBW hO hB6
                  go_wp2_with fail
                  refine wp_region_otc (.one 0 (.one 1 (.one 2 (.one 3 (.one 4 (.one 5 (.one 6 (.one 7 (.one 8 (.one 9 (.one 10 (.one 11 (.one 12 (.one 13 (.one 14 (.one 15 (.one 16 (.one 17 (.one 18 (.one 19 (.one 20 (.one 21 (.one 22 (.one 23 (.one 24 (.one 25 (.one 26 (.one 27 .nil)))))))))))))))))))))))))))) 26 (fun w' => w'.cell? ⟨w.heap.size, 0, none⟩ = some (.slice (some ⟨b, off, none⟩) n c) ∧ w'.cell? ⟨b, off + x, none⟩ = some (.slice (some ⟨b1 x, o1 x, none⟩) n (c1 x)) ∧ w'.cell? ⟨b1 x, o1 x + l, none⟩ = some (.int .i64 p) ∧ w'.cell? ⟨b, off + y, none⟩ = some (.slice (some ⟨b1 y, o1 y, none⟩) n (c1 y)) ∧ w'.cell? ⟨b1 y, o1 y + l, none⟩ = some (.int .i64 q) ∧ w'.cell? ⟨gI, l, none⟩ = some (.int .i64 u)) (by kernel_rfl) (by kernel_rfl) (by kernel_rfl) (fun _ _ _ _ _ h => h) ⟨r0, a0, a1, a2, a3, a4⟩ ?_
                  repeat (apply ot_tk rfl (by rfl) (by rfl) (by rfl); (focus (rintro wx ⟨c1', c2', c3', c4', c5', c6'⟩; go_simp; (try with_reducible rfl))); (try simp only [Act.put, List.setIfInBounds_toArray, List.set_cons_zero, List.set_cons_succ]))
                  refine ot_do rfl (by rfl) (by rfl) (fun K hK => ?_)
                  go_simp
                  have hBa : Below wr.heap.size wr (wr.drew.alloc (.cells #[.int .i64 t] 2)) := ((Below.refl _ _).drew).alloc (Nat.le_refl _) _
                  have hOa := hO9.below hBa
                  have hcl : ∀ (p : Addr) v, wr.cell? p = some v → (wr.drew.alloc (.cells #[.int .i64 t] 2)).cell? p = some v := fun p v h => (hBa.cell (World.block_lt_of_cell? _ _ h)).trans h
                  refine hK.out _ _ (fun _ => ⟨hcl _ _ r0, hcl _ _ a0, hcl _ _ a1, hcl _ _ a2, hcl _ _ a3, hcl _ _ a4⟩) ?_
                  (try simp only [Act.put, List.setIfInBounds_toArray, List.set_cons_zero, List.set_cons_succ])
                  clear hK K
                  refine ot_do rfl (by rfl) (by rfl) (fun K hK => ?_)
                  refine wp_push _ _ _ (by rfl) W6.heap.size vb _ (by rfl) hOa t wr.heap.size _ (by rfl) (Blk.new _ _ _) (by rw [hln]; omega) (by simp; omega) (by simp) ?_
                  intro g9 cap w7 hP
                  have hB7 := hB9.trans ((hBa.mono hs6).trans (hP.below hOa (by simp; omega)))
                  have hO7 := hP.own
                  rw [HQ.out, hln] at hO7
                  rw [hln]
                  refine hK.out _ _ (fun h => absurd h (by omega)) ?_
                  (try simp only [Act.put, List.setIfInBounds_toArray, List.set_cons_zero, List.set_cons_succ])
                  clear hK K
                  refine ot_do rfl (by rfl) (by rfl) (fun K hK => ?_)
                  go_simp
                  refine hK.out _ _ (fun h => absurd h (by omega)) ?_
                  (try simp only [Act.put, List.setIfInBounds_toArray, List.set_cons_zero, List.set_cons_succ])
                  clear hK K
                  refine ot_nil ?_
                  clear hP hOa hBa hO9 hB9 r0 a0 a1 a2 a3 a4
                  go_wp2_with fail
                  go_roundw
                  case rel => exact ⟨l + 1, _, by omega, by go_num, rfl, hO7, hB7⟩
                  case measure => simp [intOf] <;> omega
                · obtain rfl : n = l := by omega
                  obtain ⟨gb, cb, rfl, j1, j2, j3⟩ : ∃ g cap, vb = .slice (some ⟨g, 0, none⟩) ((List.range n).map (boS n f x y)).length cap ∧ W6.heap.size ≤ g ∧ g < wr.heap.size ∧ ((List.range n).map (boS n f x y)).length ≤ cap := by
                    rcases hO.form with ⟨_, h9⟩ | h9
                    · have := congrArg List.length h9; simp at this; omega
                    · exact h9
                  rw [List.length_map, List.length_range] at hO j3 ⊢
                  clear hBW hs6
                  have hz3' := hz3
                  go_wp2_with fail
                  go_loopw [14] (fun i wx => ∃ z : Nat, z ≤ n ∧ i = .int .i64 z ∧ NmI W5 w2.heap.size w3.heap.size vo (pc n (nmS n f cf) x y z) wx ∧ Ow wx W6.heap.size (.slice (some ⟨gb, 0, none⟩) n cb) ((List.range n).map (boS n f x y))) (fun i _ => n - (intOf i).toNat)
                  case atStart => exact ⟨0, by omega, rfl, hNx, hO⟩
                  case round =>
                    clear hNx hO hB6 hN
                    obtain ⟨z, hz, rfl, hN, hO⟩ := hrel
                    have hBW := HLO.out _ _ hN
                    by_cases hlz : z < n
                    · have hck := hcf z hlz
                      have T := V.keep hBW (Nat.le_refl _)
                      have r0 := (hBW.cell (p := ⟨w.heap.size, 0, none⟩) hlW).trans q0
                      have HD := hide (fun wd (h : Below wr.heap.size wr wd) => (l01Dot_any wd 0 0 gb 0 (b1 (cf z)) (o1 (cf z)) n cb (c1 (cf z)) (boS n f x y) (f (cf z)) (fun l hl => by
                          have := (hO.below h).cell (by simp) hl
                          rw [gi_row hl] at this
                          simpa using this) (fun l hl => (T.keep (h.mono hBW.size) (Nat.le_refl _)).h2 (cf z) l hck hl) j3 (T.h1 _ hck).2.2 (by omega) (fun l _ => boS_in n f x y l) (fun l hl => hf _ l hck hl)).mono fun _ _ h => Qt.re h)
                      have hd : sm (fun l => boS n f x y l * f (cf z) l) n % 55441 = nmS n f cf x y z := rfl
                      rw [hd] at HD
                      obtain ⟨gv, g1, g2, cv', c1', c2', ev, kg0, kg1, kg2, x0, x1, ⟨u, x2⟩, x3, x4, HL⟩ := E3.later hN.e hlx hly hlz (inP_ok (nmS_in n f cf x y z))
                      subst ev
                      obtain ⟨bc, oc, rfl, hbc, hcc⟩ := hC.at_ hp
                      have a5 := (hBW.cell (p := ⟨bc, oc + z, none⟩) hbc).trans (hcc z hlz)
                      rw [cjL_gi hlz] at a5
                      have lbc : bc < wr.heap.size := Nat.lt_of_lt_of_le hbc hBW.size
                      have hccp := hC.cap
                      obtain ⟨ck, eck⟩ : ∃ ck, cf z = ck := ⟨_, rfl⟩
                      rw [eck] at HD a5 hck
                      have a6 := (T.h1 ck hck).1
                      have a7 := (T.h1 ck hck).2.1
                      have lb : b < wr.heap.size := Nat.lt_of_lt_of_le T.hb hBW.size
                      have l0 : w.heap.size < wr.heap.size := Nat.lt_of_lt_of_le hlW hBW.size
                      obtain ⟨q, hq⟩ : ∃ q, nmS n f cf x y z = q := ⟨_, rfl⟩
                      rw [hq] at HD HL
                      have HLH := hide HL
                      have X0 := hide x0
                      have X1 := hide x1
                      have X2 := hide x2
                      have X3 := hide x3
                      have hO9 := hide hO
                      have hN9 := hide hN
                      clear HL x0 x1 x2 x3 hq hd hcc eck T hO hN hBW
                      go_wp2_with fail
                      refine wp_region_be [0, 1, 2, 3, 4, 5, 6, 7, 8, 9, 10, 11, 12, 13, 14, 15, 16, 17, 18, 19] 18 wr.heap.size wr (by kernel_rfl) (by kernel_rfl) (by kernel_rfl) (fun _ _ _ _ _ h => h) (Below.refl _ _) (fun wd hBe => ?_)
                      repeat (first | (apply ord_tk rfl (by rfl) (by rfl) (by rfl); (focus (intro wx hSw; have s0 := (hSw.cell (p := ⟨w.heap.size, 0, none⟩) l0).trans r0; have s3 := (hSw.cell (p := ⟨gv, x, none⟩) kg0).trans X0.out; have s4 := (hSw.cell (p := ⟨g1, y, none⟩) kg1).trans X1.out; have s5 := (hSw.cell (p := ⟨bc, oc + z, none⟩) lbc).trans a5; have s6 := (hSw.cell (p := ⟨b, off + ck, none⟩) lb).trans a6; go_simp; (try with_reducible rfl))); (try simp only [Act.put, List.setIfInBounds_toArray, List.set_cons_zero, List.set_cons_succ])) | (apply ord_skip rfl (by rfl) (by rfl) (fun _ => hBe); (try simp only [Act.put, List.setIfInBounds_toArray, List.set_cons_zero, List.set_cons_succ])))
                      refine ord_do rfl (by rfl) (by rfl) (fun K hK => ?_)
                      go_simp
                      refine (HD.out _ hBe).mono ?_
                      rintro e wd' ⟨rfl, hwd⟩
                      replace hBe := hBe.trans (hwd.mono hBe.size)
                      clear hwd
                      refine hK.out _ _ (fun _ => hBe) ?_
                      (try simp only [Act.put, List.setIfInBounds_toArray, List.set_cons_zero, List.set_cons_succ])
                      clear hK K
                      repeat (first | (apply ord_tk rfl (by rfl) (by rfl) (by rfl); (focus (intro wx hSw; have s0 := (hSw.cell (p := ⟨w.heap.size, 0, none⟩) l0).trans r0; have s3 := (hSw.cell (p := ⟨gv, x, none⟩) kg0).trans X0.out; have s4 := (hSw.cell (p := ⟨g1, y, none⟩) kg1).trans X1.out; have s5 := (hSw.cell (p := ⟨bc, oc + z, none⟩) lbc).trans a5; have s6 := (hSw.cell (p := ⟨b, off + ck, none⟩) lb).trans a6; go_simp; (try with_reducible rfl))); (try simp only [Act.put, List.setIfInBounds_toArray, List.set_cons_zero, List.set_cons_succ])) | (apply ord_skip rfl (by rfl) (by rfl) (fun _ => hBe); (try simp only [Act.put, List.setIfInBounds_toArray, List.set_cons_zero, List.set_cons_succ])))
                      have s2 := (hBe.cell (p := ⟨g2, z, none⟩) kg2).trans X2.out
                      have s3 := (hBe.frozen (p := ⟨g2, z, none⟩) kg2).trans X3.out
                      refine ord_do rfl (by rfl) (by rfl) (fun K hK => ?_)
                      go_simp
                      refine hK.out _ _ (fun h => absurd h (by omega)) ?_
                      (try simp only [Act.put, List.setIfInBounds_toArray, List.set_cons_zero, List.set_cons_succ])
                      clear hK K
                      refine ord_do rfl (by rfl) (by rfl) (fun K hK => ?_)
                      go_simp
                      refine hK.out _ _ (fun h => absurd h (by omega)) ?_
                      (try simp only [Act.put, List.setIfInBounds_toArray, List.set_cons_zero, List.set_cons_succ])
                      clear hK K
                      refine ord_nil ?_
                      have hWs := (Wr.of_below (fp := fun b => b = g2) hBe).trans (wr_one wd' g2 z (.int .i64 q))
                      have HN := hide (show NmI W5 w2.heap.size w3.heap.size (.slice (some ⟨gv, 0, none⟩) n cv') (pc n (nmS n f cf) x y (z + 1)) (wd'.setCell ⟨g2, z, none⟩ (.int .i64 q)) from ⟨HLH.out wd' hBe, hN9.out.w.trans (hWs.mono fun b hb => .inl (by rw [hb]; exact x4))⟩)
                      have HO := hide (hWs.own hO9.out (fun b hb hf => by
                        have e : gb = b := by simpa [Value.ownBlock] using hb
                        have := x4.2
                        omega))
                      clear s2 s3 hWs
                      go_wp2_with fail
                      go_roundw
                      case rel => exact ⟨z + 1, by omega, by go_num, HN.out, HO.out⟩
                      case measure => simp [intOf] <;> omega
                    · obtain rfl : n = z := by omega
                      have h9 := hN
                      rw [pc_nextz] at h9
                      go_wp2_with fail
                      go_roundw
                      case rel => exact ⟨y + 1, by omega, by go_num, h9⟩
                      case measure => simp [intOf] <;> omega
            · obtain rfl : n = y := by omega
              have h9 := hN
              rw [pc_nexty] at h9
              go_wp2_with fail
              go_roundw
              case rel => exact ⟨x + 1, by omega, by go_num, h9⟩
              case measure => simp [intOf] <;> omega
        · obtain rfl : n = x := by omega
          have h9 := hN
          rw [pc_all] at h9
          have hfin := HLO.out _ _ hN
          go_wp2_with fail
          go_ret
          exact ⟨_, rfl, OwL.mono h9.e (fun b hb => ⟨by omega, by have := hN.w.size; omega⟩) (fun b hb => hb.2), hbW.trans (hfin.mono hbW.size)⟩
end Go.Proofs.Ytlhfjfpgoaiijaa
