
/- AreEquivalentMetrics of both sides, and its law. -/
import Derived.Test.YtlekbkjkkoefnaaDoorMWL
import Derived.Test.YtlekbkjkkoefnaaDoorM2
import Derived.Test.YtlekbkjkkoefnaaDoorX4
namespace Go.Proofs.YtlekbkjkkoefnaaDoor
open Go Go.RowKit Grp
set_option linter.unusedSimpArgs false
set_option linter.unusedVariables false
/-! ### plain -/
theorem emod_w {X Y q Z : Int} (h : X = Y + q * Z) : X % q = Y % q := by rw [h, Int.add_mul_emod_self_left]
theorem neg_em (a D : Int) : (-(a % D)) % D = (-a) % D := by
  refine emod_w (Z := a / D) ?_
  have := Int.emod_add_mul_ediv a D
  generalize D * (a / D) = u at *
  omega
theorem negL_vl (D : Int) (vs : List Int) (x : Int) : Vl (negL D vs) x = (-(Vl vs x)) % D := by
  unfold Vl negL gi
  rw [List.getD_eq_getElem?_getD, List.getD_eq_getElem?_getD, List.getElem?_map]
  cases vs[x.toNat]? <;> simp
theorem negL_pr (os : List Int) (D : Int) (vs : List Int) (x y : Int) : Pr os D (negL D vs) x y = (-(Pr os D vs x y)) % D := by
  unfold Pr
  rw [negL_vl, negL_vl, negL_vl, neg_em]
  have a1 := Int.emod_add_mul_ediv (-(Vl vs (Ar os x y))) D
  have a2 := Int.emod_add_mul_ediv (-(Vl vs x)) D
  have a3 := Int.emod_add_mul_ediv (-(Vl vs y)) D
  refine emod_w (Z := -(Vl vs x) / D + -(Vl vs y) / D - -(Vl vs (Ar os x y)) / D) ?_
  grind
theorem neg_isM {os vs : List Int} {D : Int} (h : IsM os D vs) : IsM os D (negL D vs) := by
  have hd := h.ok.d1
  refine ⟨⟨h.ok.g, h.ok.d1, h.ok.d2, by rw [negL_len]; exact h.ok.len, fun v hv => ?_⟩, h.ord, ?_, fun x hx => ?_, fun x y z hx hy hz => ?_⟩
  · obtain ⟨u, _, rfl⟩ := List.mem_map.1 hv
    exact ⟨Int.emod_nonneg _ (by omega), Int.emod_lt_of_pos _ (by omega)⟩
  · have := negL_vl D vs 0
    unfold Vl at this
    simp only [Int.toNat_zero] at this
    rw [this, h.zero]; simp
  · rw [negL_vl, negL_vl, h.neg x hx]
  · rw [negL_pr, negL_pr, negL_pr, h.bil x y z hx hy hz, neg_em, ← Int.add_emod]
    congr 1
    omega
def sD (D1 D2 : Nat) : Nat := D1 / Nat.gcd D1 D2 * D2
theorem sumQ_at {D1 D2 : Nat} (h1 : 55440 % D1 = 0) (h2 : 55440 % D2 = 0) (p1 : 1 ≤ D1) (p2 : 1 ≤ D2) : SumQ D1 D2 (Nat.gcd D1 D2) (D1 / Nat.gcd D1 D2) (sD D1 D2) (sD D1 D2 / D1) (sD D1 D2 / D2) := by
  obtain ⟨q, e, D, e1, e2, h⟩ := sumQ h1 h2 p1 p2
  have k1 := h.gcd
  have k2 := h.div
  have k3 := h.mul
  have k4 := h.d1
  have k5 := h.d2
  subst k1 k2 k3 k4 k5
  exact h
theorem cat_ok {os1 vs1 os2 vs2 : List Int} {D1 D2 q e D e1 e2 : Nat} (h1 : OkM os1 D1 vs1) (h2 : OkM os2 D2 vs2) (hQ : SumQ D1 D2 q e D e1 e2) (hP : prodL os1 * prodL os2 ≤ 16) (hL : os1.length + os2.length ≤ 4) :
    OkM (os1 ++ os2) D (sumL D e1 e2 vs1 vs2) := by
  have hb := hQ.b
  have hb1 := hQ.b1
  refine ⟨okG_iff.1 ?_, by omega, by omega, ?_, fun v hv => ?_⟩
  · have g1 := okG_iff.2 h1.g
    have g2 := okG_iff.2 h2.g
    unfold okG at g1 g2 ⊢
    obtain ⟨a1, a2, a3, a4⟩ := of_decide_eq_true g1
    obtain ⟨b1, b2, b3, b4⟩ := of_decide_eq_true g2
    refine decide_eq_true ⟨by rw [List.length_append]; omega, by rw [List.length_append]; omega, fun m hm => ?_, by rw [prodL_append]; exact hP⟩
    rcases List.mem_append.1 hm with hm | hm
    · exact a3 m hm
    · exact b3 m hm
  · rw [sumL_len, prodL_append, Int.natCast_mul, h1.len, h2.len]
  · obtain ⟨a, _, ha⟩ := List.mem_flatMap.1 hv
    obtain ⟨b, _, rfl⟩ := List.mem_map.1 ha
    exact ⟨Int.emod_nonneg _ (by omega), Int.emod_lt_of_pos _ (by omega)⟩
def AeOk (os1 : List Int) (D1 : Int) (vs1 os2 : List Int) (D2 : Int) (vs2 : List Int) : Prop := IsM os1 D1 vs1 ∧ IsM os2 D2 vs2 ∧ prodL os1 * prodL os2 ≤ 16 ∧ os1.length + os2.length ≤ 4
noncomputable def aeL (os1 : List Int) (D1 : Nat) (vs1 os2 : List Int) (D2 : Nat) (vs2 : List Int) : List Int := lagK (os1 ++ os2) (sD D1 D2 : Nat) (sumL (sD D1 D2) (sD D1 D2 / D1) (sD D1 D2 / D2) vs1 (negL (D2 : Int) vs2))
open Classical in
noncomputable def aeB (os1 : List Int) (D1 : Int) (vs1 os2 : List Int) (D2 : Int) (vs2 : List Int) : Bool := if AeOk os1 D1 vs1 os2 D2 vs2 then decide (0 < (aeL os1 D1.toNat vs1 os2 D2.toNat vs2).length) else false
open Classical in
noncomputable def aeC (os1 : List Int) (D1 : Int) (vs1 os2 : List Int) (D2 : Int) (vs2 : List Int) : Int := if AeOk os1 D1 vs1 os2 D2 vs2 then 0 else noC os1 D1 vs1 os2 D2 vs2
theorem aeL_sub {os1 vs1 os2 vs2 : List Int} {D1 D2 : Nat} (h : OkM (os1 ++ os2) (sD D1 D2 : Nat) (sumL (sD D1 D2) (sD D1 D2 / D1) (sD D1 D2 / D2) vs1 (negL (D2 : Int) vs2))) : (aeL os1 D1 vs1 os2 D2 vs2).length ≤ 65536 ∧ ∀ x ∈ aeL os1 D1 vs1 os2 D2 vs2, i64ok x := by
  refine ⟨Nat.le_trans (List.length_filter_le _ _) (Nat.le_trans (isoK_len _ _) (sgK_len h.lt)), fun x hx => ?_⟩
  have := sgK_rng h.lt x (lagK_sub x hx)
  exact ⟨by omega, by omega⟩
set_option maxHeartbeats 8000000 in
theorem impl_AE_any (w : World) (A1 : Option Addr) (n1 c1 : Nat) (os1 : List Int) (D1 : Int) (B1 : Option Addr) (m1 k1 : Nat) (vs1 : List Int) (A2 : Option Addr) (n2 c2 : Nat) (os2 : List Int) (D2 : Int) (B2 : Option Addr) (m2 k2 : Nat) (vs2 : List Int)
    (h1 : Sl w w.heap.size A1 n1 c1 os1) (g1 : Sl w w.heap.size B1 m1 k1 vs1) (h2 : Sl w w.heap.size A2 n2 c2 os2) (g2 : Sl w w.heap.size B2 m2 k2 vs2) (hn1 : n1 ≤ 1048576) (hm1 : m1 ≤ 1048576) (hn2 : n2 ≤ 1048576) (hm2 : m2 ≤ 1048576) (hT : Tb w) :
    Calls Tryd.prog 26 #[.agg #[.slice A1 n1 c1, .int .i64 D1, .slice B1 m1 k1], .agg #[.slice A2 n2 c2, .int .i64 D2, .slice B2 m2 k2]] w (ReB w (aeB os1 D1 vs1 os2 D2 vs2) (aeC os1 D1 vs1 os2 D2 vs2)) := by
  obtain rfl := h1.len
  obtain rfl := g1.len
  obtain rfl := h2.len
  obtain rfl := g2.len
  cases i1 : isM os1 D1 vs1 with
  | false =>
    have hno : ¬ AeOk os1 D1 vs1 os2 D2 vs2 := fun h => by rw [isM_t h.1] at i1; cases i1
    have hC := hide (show aeC os1 D1 vs1 os2 D2 vs2 = 1 by unfold aeC; rw [if_neg hno]; unfold noC; rw [i1]; rfl)
    have hR := hide (show aeB os1 D1 vs1 os2 D2 vs2 = false by unfold aeB; rw [if_neg hno])
    clear hno
    go_enter Tryd.func26, Tryd.ntmps26
    go_wp2_with fail
    obtain ⟨W, hW⟩ : ∃ W, (w.alloc (.cells #[.slice A1 os1.length c1, .int .i64 D1, .slice B1 vs1.length k1] 28)).alloc (.cells #[.slice A2 os2.length c2, .int .i64 D2, .slice B2 vs2.length k2] 28) = W := ⟨_, rfl⟩
    have hbW : Below w.heap.size w W := by rw [← hW]; exact (by repeat (first | assumption | exact Below.refl _ _ | apply below_drewN | apply Below.drew | apply Below.alloc | apply Below.setCell | omega | (focus (simp; done)) | (focus (simp; omega))))
    have hsW := hide (show W.heap.size = w.heap.size + 2 by rw [← hW]; simp)
    have hszW : w.heap.size < W.heap.size := by rw [hsW.out]; omega
    have hszW1 : w.heap.size + 1 < W.heap.size := by rw [hsW.out]; omega
    have bM : Blk W w.heap.size 28 #[.slice A1 os1.length c1, .int .i64 D1, .slice B1 vs1.length k1] := by rw [← hW]; exact (Blk.new _ _ _).alloc _
    have bN : Blk W (w.heap.size + 1) 28 #[.slice A2 os2.length c2, .int .i64 D2, .slice B2 vs2.length k2] := by rw [← hW]; exact Blk.new' _ _ _ _ (by simp)
    rw [hW]
    clear hW
    have hs1 := (h1.below hbW).more (Nat.le_of_lt hszW)
    have hg1 := (g1.below hbW).more (Nat.le_of_lt hszW)
    have hs2 := (h2.below hbW).more (Nat.le_of_lt hszW)
    have hg2 := (g2.below hbW).more (Nat.le_of_lt hszW)
    have q0 := bM.cell 0
    have q1 := bM.cell 1
    have q2 := bM.cell 2
    have p0 := bN.cell 0
    have p1 := bN.cell 1
    have p2 := bN.cell 2
    go_wp2_with fail
    refine (implIs_v false _ _ _ _ _ _ _ _ _ _ hs1 hg1 hn1 hm1 i1).mono ?_
    rintro e w2 ⟨rfl, hb2⟩
    go_wp2_with fail
    refine bodyPost_ret (v := .tuple #[.bool false, .int .i64 1]) (by simp [results, Tryd.results26, go_sem]) rfl ?_
    exact ⟨by rw [hC.out, hR.out], hbW.trans (hb2.mono (Nat.le_of_lt hszW))⟩
  | true =>
    cases i2 : isM os2 D2 vs2 with
    | false =>
      have hno : ¬ AeOk os1 D1 vs1 os2 D2 vs2 := fun h => by rw [isM_t h.2.1] at i2; cases i2
      have hC := hide (show aeC os1 D1 vs1 os2 D2 vs2 = 1 by unfold aeC; rw [if_neg hno]; unfold noC; rw [i1, i2]; rfl)
      have hR := hide (show aeB os1 D1 vs1 os2 D2 vs2 = false by unfold aeB; rw [if_neg hno])
      clear hno
      go_enter Tryd.func26, Tryd.ntmps26
      go_wp2_with fail
      obtain ⟨W, hW⟩ : ∃ W, (w.alloc (.cells #[.slice A1 os1.length c1, .int .i64 D1, .slice B1 vs1.length k1] 28)).alloc (.cells #[.slice A2 os2.length c2, .int .i64 D2, .slice B2 vs2.length k2] 28) = W := ⟨_, rfl⟩
      have hbW : Below w.heap.size w W := by rw [← hW]; exact (by repeat (first | assumption | exact Below.refl _ _ | apply below_drewN | apply Below.drew | apply Below.alloc | apply Below.setCell | omega | (focus (simp; done)) | (focus (simp; omega))))
      have hsW := hide (show W.heap.size = w.heap.size + 2 by rw [← hW]; simp)
      have hszW : w.heap.size < W.heap.size := by rw [hsW.out]; omega
      have hszW1 : w.heap.size + 1 < W.heap.size := by rw [hsW.out]; omega
      have bM : Blk W w.heap.size 28 #[.slice A1 os1.length c1, .int .i64 D1, .slice B1 vs1.length k1] := by rw [← hW]; exact (Blk.new _ _ _).alloc _
      have bN : Blk W (w.heap.size + 1) 28 #[.slice A2 os2.length c2, .int .i64 D2, .slice B2 vs2.length k2] := by rw [← hW]; exact Blk.new' _ _ _ _ (by simp)
      rw [hW]
      clear hW
      have hs1 := (h1.below hbW).more (Nat.le_of_lt hszW)
      have hg1 := (g1.below hbW).more (Nat.le_of_lt hszW)
      have hs2 := (h2.below hbW).more (Nat.le_of_lt hszW)
      have hg2 := (g2.below hbW).more (Nat.le_of_lt hszW)
      have q0 := bM.cell 0
      have q1 := bM.cell 1
      have q2 := bM.cell 2
      have p0 := bN.cell 0
      have p1 := bN.cell 1
      have p2 := bN.cell 2
      go_wp2_with fail
      refine (implIs_v true _ _ _ _ _ _ _ _ _ _ hs1 hg1 hn1 hm1 i1).mono ?_
      rintro e w2 ⟨rfl, hb2⟩
      have r0 := (hb2.cell (p := ⟨w.heap.size, 0, none⟩) hszW).trans q0
      have r1 := (hb2.cell (p := ⟨w.heap.size, 1, none⟩) hszW).trans q1
      have r2 := (hb2.cell (p := ⟨w.heap.size, 2, none⟩) hszW).trans q2
      have r3 := (hb2.cell (p := ⟨w.heap.size + 1, 0, none⟩) hszW1).trans p0
      have r4 := (hb2.cell (p := ⟨w.heap.size + 1, 1, none⟩) hszW1).trans p1
      have r5 := (hb2.cell (p := ⟨w.heap.size + 1, 2, none⟩) hszW1).trans p2
      go_wp2_with fail
      refine (implIs_v false _ _ _ _ _ _ _ _ _ _ ((hs2.below hb2).more hb2.size) ((hg2.below hb2).more hb2.size) hn2 hm2 i2).mono ?_
      rintro e w3 ⟨rfl, hb3⟩
      have k3 := hb2.trans (hb3.mono hb2.size)
      clear r0 r1 r2 r3 r4 r5
      go_wp2_with fail
      refine bodyPost_ret (v := .tuple #[.bool false, .int .i64 1]) (by simp [results, Tryd.results26, go_sem]) rfl ?_
      exact ⟨by rw [hC.out, hR.out], hbW.trans (k3.mono (Nat.le_of_lt hszW))⟩
    | true =>
      have hM1 := isM_iff.1 i1
      have hM2 := isM_iff.1 i2
      have hG1 := hM1.ok.g
      have hG2 := hM2.ok.g
      have hv1 := hM1.ok.lt
      have hv2 := hM2.ok.lt
      have hq1 := hG1.ge
      have hq2 := hG2.ge
      have hle1 := hG1.l4
      have hle2 := hG2.l4
      have hpp1 := hG1.p16
      have hpp2 := hG2.p16
      have o1 := hM1.ord
      have o2 := hM2.ord
      unfold ordB at o1 o2
      obtain ⟨o1a, o1b⟩ := of_decide_eq_true o1
      obtain ⟨o2a, o2b⟩ := of_decide_eq_true o2
      obtain ⟨d1, rfl⟩ := Int.eq_ofNat_of_zero_le (show 0 ≤ D1 by omega)
      obtain ⟨d2, rfl⟩ := Int.eq_ofNat_of_zero_le (show 0 ≤ D2 by omega)
      have hQ := sumQ_at (D1 := d1) (D2 := d2) (Int.ofNat.inj (show ((55440 % d1 : Nat) : Int) = ((0 : Nat) : Int) by rw [Int.natCast_emod]; exact o1b)) (Int.ofNat.inj (show ((55440 % d2 : Nat) : Int) = ((0 : Nat) : Int) by rw [Int.natCast_emod]; exact o2b)) (by omega) (by omega)
      have hNM := neg_isM hM2
      clear o1 o2 o1b o2b
      by_cases hok : AeOk os1 d1 vs1 os2 d2 vs2
      · have hC := hide (show aeC os1 d1 vs1 os2 d2 vs2 = 0 by unfold aeC; rw [if_pos hok])
        have hR := hide (show aeB os1 d1 vs1 os2 d2 vs2 = decide (0 < (aeL os1 d1 vs1 os2 d2 vs2).length) by unfold aeB; rw [if_pos hok]; simp only [Int.toNat_natCast])
        obtain ⟨-, -, hP, hLn⟩ := hok
        have hK := cat_ok hM1.ok hNM.ok hQ hP hLn
        obtain ⟨hal, har⟩ := aeL_sub hK
        have HAR := hide har
        have hLE := hide (show lagK (os1 ++ os2) (sD d1 d2 : Nat) (sumL (sD d1 d2) (sD d1 d2 / d1) (sD d1 d2 / d2) vs1 (negL (d2 : Int) vs2)) = aeL os1 d1 vs1 os2 d2 vs2 from rfl)
        clear har
        go_enter Tryd.func26, Tryd.ntmps26
        go_wp2_with fail
        obtain ⟨W, hW⟩ : ∃ W, (w.alloc (.cells #[.slice A1 os1.length c1, .int .i64 (d1 : Int), .slice B1 vs1.length k1] 28)).alloc (.cells #[.slice A2 os2.length c2, .int .i64 (d2 : Int), .slice B2 vs2.length k2] 28) = W := ⟨_, rfl⟩
        have hbW : Below w.heap.size w W := by rw [← hW]; exact (by repeat (first | assumption | exact Below.refl _ _ | apply below_drewN | apply Below.drew | apply Below.alloc | apply Below.setCell | omega | (focus (simp; done)) | (focus (simp; omega))))
        have hsW := hide (show W.heap.size = w.heap.size + 2 by rw [← hW]; simp)
        have hszW : w.heap.size < W.heap.size := by rw [hsW.out]; omega
        have hszW1 : w.heap.size + 1 < W.heap.size := by rw [hsW.out]; omega
        have bM : Blk W w.heap.size 28 #[.slice A1 os1.length c1, .int .i64 (d1 : Int), .slice B1 vs1.length k1] := by rw [← hW]; exact (Blk.new _ _ _).alloc _
        have bN : Blk W (w.heap.size + 1) 28 #[.slice A2 os2.length c2, .int .i64 (d2 : Int), .slice B2 vs2.length k2] := by rw [← hW]; exact Blk.new' _ _ _ _ (by simp)
        rw [hW]
        clear hW
        have hs1 := (h1.below hbW).more (Nat.le_of_lt hszW)
        have hg1 := (g1.below hbW).more (Nat.le_of_lt hszW)
        have hs2 := (h2.below hbW).more (Nat.le_of_lt hszW)
        have hg2 := (g2.below hbW).more (Nat.le_of_lt hszW)
        have q0 := bM.cell 0
        have q1 := bM.cell 1
        have q2 := bM.cell 2
        have p0 := bN.cell 0
        have p1 := bN.cell 1
        have p2 := bN.cell 2
        go_wp2_with fail
        refine (implIs_v true _ _ _ _ _ _ _ _ _ _ hs1 hg1 (by omega) (by omega) i1).mono ?_
        rintro e w2 ⟨rfl, hb2⟩
        have r0 := (hb2.cell (p := ⟨w.heap.size, 0, none⟩) hszW).trans q0
        have r1 := (hb2.cell (p := ⟨w.heap.size, 1, none⟩) hszW).trans q1
        have r2 := (hb2.cell (p := ⟨w.heap.size, 2, none⟩) hszW).trans q2
        have r3 := (hb2.cell (p := ⟨w.heap.size + 1, 0, none⟩) hszW1).trans p0
        have r4 := (hb2.cell (p := ⟨w.heap.size + 1, 1, none⟩) hszW1).trans p1
        have r5 := (hb2.cell (p := ⟨w.heap.size + 1, 2, none⟩) hszW1).trans p2
        go_wp2_with fail
        refine (implIs_v true _ _ _ _ _ _ _ _ _ _ ((hs2.below hb2).more hb2.size) ((hg2.below hb2).more hb2.size) (by omega) (by omega) i2).mono ?_
        rintro e w3 ⟨rfl, hb3⟩
        have hB := hb2.trans (hb3.mono hb2.size)
        clear r0 r1 r2 r3 r4 r5 hb2 hb3
        have HOS := hide (show ∀ x ∈ os2, i64ok x from fun x hx => by have := hG2.m2 x hx; have := hG2.m16 x hx; exact ⟨by omega, by omega⟩)
        have HNR := hide (show ∀ x ∈ negL (d2 : Int) vs2, i64ok x from fun x hx => by have := hNM.ok.rng x hx; have := hM2.ok.d2; exact ⟨by omega, by omega⟩)
        have hsum := fun W A1 n1 c1 B1 m1 k1 A2 n2 c2 B2 m2 k2 a b c d => impl_Sum_yes W A1 n1 c1 os1 d1 B1 m1 k1 vs1 A2 n2 c2 os2 d2 B2 m2 k2 (negL (d2 : Int) vs2) a b c d hM1 hNM _ _ _ _ _ hQ hP hLn
        obtain ⟨LL, hLL⟩ : ∃ LL, sumL (sD d1 d2) (sD d1 d2 / d1) (sD d1 d2 / d2) vs1 (negL (d2 : Int) vs2) = LL := ⟨_, rfl⟩
        obtain ⟨o12, ho12⟩ : ∃ o, os1 ++ os2 = o := ⟨_, rfl⟩
        simp only [hLL, ho12] at hK hLE hsum
        obtain ⟨sd, hsd⟩ : ∃ sd, sD d1 d2 = sd := ⟨_, rfl⟩
        simp only [hsd] at hK hLE hsum
        have HR1 := hide (show ∀ x ∈ o12, i64ok x from fun x hx => by have := hK.g.m2 x hx; have := hK.g.m16 x hx; exact ⟨by omega, by omega⟩)
        have HR2 := hide (show ∀ x ∈ LL, i64ok x from fun x hx => by have := hK.rng x hx; have := hK.d2; exact ⟨by omega, by omega⟩)
        have HK := hide hK
        have HSUM := hide hsum
        clear hLL ho12 hsd hQ hK hsum
        have r0 := (hB.cell (p := ⟨w.heap.size, 0, none⟩) hszW).trans q0
        have r1 := (hB.cell (p := ⟨w.heap.size, 1, none⟩) hszW).trans q1
        have r2 := (hB.cell (p := ⟨w.heap.size, 2, none⟩) hszW).trans q2
        have r3 := (hB.cell (p := ⟨w.heap.size + 1, 0, none⟩) hszW1).trans p0
        have r4 := (hB.cell (p := ⟨w.heap.size + 1, 1, none⟩) hszW1).trans p1
        have r5 := (hB.cell (p := ⟨w.heap.size + 1, 2, none⟩) hszW1).trans p2
        have hneg := impl_Negm_any
        go_wp2_with fail
        clear hneg
        refine (impl_Negm_any _ _ _ _ _ _ _ _ _ _ ((hs2.below hB).more hB.size) ((hg2.below hB).more hB.size) (by omega) (by omega)).mono ?_
        rw [gIf_t i2, gIf_t i2, gIfI_t i2, codeM_t i2]
        rintro e w4 ⟨v1, v2, rfl, ho1, ho2, -, hb4⟩
        obtain ⟨NA, nc, rfl, sn1⟩ := ho1.sl HOS.out
        obtain ⟨NB, nd, rfl, sn2⟩ := ho2.sl HNR.out
        have hB4 := hB.trans (hb4.mono hB.size)
        clear r0 r1 r2 r3 r4 r5 ho1 ho2 hb4
        have r0 := (hB4.cell (p := ⟨w.heap.size, 0, none⟩) hszW).trans q0
        have r1 := (hB4.cell (p := ⟨w.heap.size, 1, none⟩) hszW).trans q1
        have r2 := (hB4.cell (p := ⟨w.heap.size, 2, none⟩) hszW).trans q2
        have r3 := (hB4.cell (p := ⟨w.heap.size + 1, 0, none⟩) hszW1).trans p0
        have r4 := (hB4.cell (p := ⟨w.heap.size + 1, 1, none⟩) hszW1).trans p1
        have r5 := (hB4.cell (p := ⟨w.heap.size + 1, 2, none⟩) hszW1).trans p2
        have hz4 := hB4.size
        have hw4 : w.heap.size < w4.heap.size := by omega
        have hw5 : w.heap.size + 1 < w4.heap.size := by omega
        go_wp2_with fail
        have hB5 := hB4.trans (((Below.refl w4.heap.size w4).alloc (Nat.le_refl _) (.cells #[.slice NA os2.length nc, .int .i64 d2, .slice NB (negL (d2 : Int) vs2).length nd] 28)).mono hB4.size)
        have ha4 : (w4.alloc (.cells #[.slice NA os2.length nc, .int .i64 d2, .slice NB (negL (d2 : Int) vs2).length nd] 28)).heap.size = w4.heap.size + 1 := by simp
        refine (HSUM.out _ _ _ _ _ _ _ _ _ _ _ _ _ ((hs1.below hB5).more hB5.size) ((hg1.below hB5).more hB5.size) ((sn1.alloc (Nat.le_refl _) _).more (by rw [ha4]; omega)) ((sn2.alloc (Nat.le_refl _) _).more (by rw [ha4]; omega))).mono ?_
        rintro e w6 ⟨u1', u2', rfl, ho1, ho2, -, hb6⟩
        obtain ⟨SA, sc, rfl, ss1⟩ := ho1.sl HR1.out
        obtain ⟨SB, se, rfl, ss2⟩ := ho2.sl HR2.out
        have hB6 := hB5.trans (hb6.mono hB5.size)
        clear r0 r1 r2 r3 r4 r5 ho1 ho2 hb6 hw4 hw5 ha4 sn1 sn2
        go_wp2_with fail
        have hB7 := hB6.trans (((Below.refl w6.heap.size w6).alloc (Nat.le_refl _) (.cells #[.slice SA o12.length sc, .int .i64 sd, .slice SB LL.length se] 28)).mono hB6.size)
        have ha6 : (w6.alloc (.cells #[.slice SA o12.length sc, .int .i64 sd, .slice SB LL.length se] 28)).heap.size = w6.heap.size + 1 := by simp
        refine (lagrangianMasks_any _ _ _ _ o12 _ _ _ _ LL ((ss1.alloc (Nat.le_refl _) _).more (by rw [ha6]; omega)) ((ss2.alloc (Nat.le_refl _) _).more (by rw [ha6]; omega)) HK.out ((hT.bel hbW).bel hB7)).mono ?_
        rw [hLE.out]
        rintro e w8 ⟨v8, rfl, hV8, hb8⟩
        obtain ⟨G, cg, rfl, sg⟩ := hV8.sl HAR.out
        have hB8 := hB7.trans (hb8.mono hB7.size)
        clear sg hV8 hb8 ha6 ss1 ss2
        obtain ⟨al, hal2⟩ : ∃ al, (aeL os1 d1 vs1 os2 d2 vs2).length = al := ⟨_, rfl⟩
        have HRR := hide (show aeB os1 d1 vs1 os2 d2 vs2 = decide (0 < al) by rw [← hal2]; exact hR.out)
        rw [hal2]
        clear hal2 hal
        by_cases h0 : 0 < al
        · have hR2 := hide (show aeB os1 d1 vs1 os2 d2 vs2 = true by rw [HRR.out]; exact decide_eq_true h0)
          have h0i : (0 : Int) < (al : Int) := by omega
          have HH := hide h0
          clear h0
          go_wp2_with fail
          refine bodyPost_ret (v := .tuple #[.bool true, .int .i64 0]) (by simp [results, Tryd.results26, go_sem]; have := HH.out; omega) rfl ?_
          exact ⟨by rw [hC.out, hR2.out], hbW.trans (hB8.mono (Nat.le_of_lt hszW))⟩
        · have hR2 := hide (show aeB os1 d1 vs1 os2 d2 vs2 = false by rw [HRR.out]; exact decide_eq_false h0)
          have h0i : ¬ (0 : Int) < (al : Int) := by omega
          have HH := hide h0
          clear h0
          go_wp2_with fail
          refine bodyPost_ret (v := .tuple #[.bool false, .int .i64 0]) (by simp [results, Tryd.results26, go_sem]; have := HH.out; omega) rfl ?_
          exact ⟨by rw [hC.out, hR2.out], hbW.trans (hB8.mono (Nat.le_of_lt hszW))⟩
      · have hC := hide (show aeC os1 d1 vs1 os2 d2 vs2 = 3 by unfold aeC; rw [if_neg hok]; unfold noC; rw [i1, i2]; rfl)
        have hR := hide (show aeB os1 d1 vs1 os2 d2 vs2 = false by unfold aeB; rw [if_neg hok])
        have hbad : ¬ (prodL os1 * prodL os2 ≤ 16 ∧ os1.length + os2.length ≤ 4) := fun h => hok ⟨hM1, hM2, h⟩
        clear hok
        go_enter Tryd.func26, Tryd.ntmps26
        go_wp2_with fail
        obtain ⟨W, hW⟩ : ∃ W, (w.alloc (.cells #[.slice A1 os1.length c1, .int .i64 (d1 : Int), .slice B1 vs1.length k1] 28)).alloc (.cells #[.slice A2 os2.length c2, .int .i64 (d2 : Int), .slice B2 vs2.length k2] 28) = W := ⟨_, rfl⟩
        have hbW : Below w.heap.size w W := by rw [← hW]; exact (by repeat (first | assumption | exact Below.refl _ _ | apply below_drewN | apply Below.drew | apply Below.alloc | apply Below.setCell | omega | (focus (simp; done)) | (focus (simp; omega))))
        have hsW := hide (show W.heap.size = w.heap.size + 2 by rw [← hW]; simp)
        have hszW : w.heap.size < W.heap.size := by rw [hsW.out]; omega
        have hszW1 : w.heap.size + 1 < W.heap.size := by rw [hsW.out]; omega
        have bM : Blk W w.heap.size 28 #[.slice A1 os1.length c1, .int .i64 (d1 : Int), .slice B1 vs1.length k1] := by rw [← hW]; exact (Blk.new _ _ _).alloc _
        have bN : Blk W (w.heap.size + 1) 28 #[.slice A2 os2.length c2, .int .i64 (d2 : Int), .slice B2 vs2.length k2] := by rw [← hW]; exact Blk.new' _ _ _ _ (by simp)
        rw [hW]
        clear hW
        have hs1 := (h1.below hbW).more (Nat.le_of_lt hszW)
        have hg1 := (g1.below hbW).more (Nat.le_of_lt hszW)
        have hs2 := (h2.below hbW).more (Nat.le_of_lt hszW)
        have hg2 := (g2.below hbW).more (Nat.le_of_lt hszW)
        have q0 := bM.cell 0
        have q1 := bM.cell 1
        have q2 := bM.cell 2
        have p0 := bN.cell 0
        have p1 := bN.cell 1
        have p2 := bN.cell 2
        go_wp2_with fail
        refine (implIs_v true _ _ _ _ _ _ _ _ _ _ hs1 hg1 (by omega) (by omega) i1).mono ?_
        rintro e w2 ⟨rfl, hb2⟩
        have r0 := (hb2.cell (p := ⟨w.heap.size, 0, none⟩) hszW).trans q0
        have r1 := (hb2.cell (p := ⟨w.heap.size, 1, none⟩) hszW).trans q1
        have r2 := (hb2.cell (p := ⟨w.heap.size, 2, none⟩) hszW).trans q2
        have r3 := (hb2.cell (p := ⟨w.heap.size + 1, 0, none⟩) hszW1).trans p0
        have r4 := (hb2.cell (p := ⟨w.heap.size + 1, 1, none⟩) hszW1).trans p1
        have r5 := (hb2.cell (p := ⟨w.heap.size + 1, 2, none⟩) hszW1).trans p2
        go_wp2_with fail
        refine (implIs_v true _ _ _ _ _ _ _ _ _ _ ((hs2.below hb2).more hb2.size) ((hg2.below hb2).more hb2.size) (by omega) (by omega) i2).mono ?_
        rintro e w3 ⟨rfl, hb3⟩
        have hB := hb2.trans (hb3.mono hb2.size)
        clear r0 r1 r2 r3 r4 r5 hb2 hb3
        have HOS := hide (show ∀ x ∈ os2, i64ok x from fun x hx => by have := hG2.m2 x hx; have := hG2.m16 x hx; exact ⟨by omega, by omega⟩)
        have HNR := hide (show ∀ x ∈ negL (d2 : Int) vs2, i64ok x from fun x hx => by have := hNM.ok.rng x hx; have := hM2.ok.d2; exact ⟨by omega, by omega⟩)
        have hno3 := hide (show noC os1 d1 vs1 os2 d2 (negL (d2 : Int) vs2) = 3 by unfold noC; rw [i1, isM_t hNM]; rfl)
        have hvn : (negL (d2 : Int) vs2).length ≤ 16 := hNM.ok.lt
        have hsno := fun W A1 n1 c1 B1 m1 k1 A2 n2 c2 B2 m2 k2 a b c d e f g h => impl_Sum_no W A1 n1 c1 os1 d1 B1 m1 k1 vs1 A2 n2 c2 os2 d2 B2 m2 k2 (negL (d2 : Int) vs2) a b c d e f g h (fun h9 => hbad h9.2.2)
        rw [hno3.out] at hsno
        have HSUM := hide hsno
        clear hsno hQ hbad
        have r0 := (hB.cell (p := ⟨w.heap.size, 0, none⟩) hszW).trans q0
        have r1 := (hB.cell (p := ⟨w.heap.size, 1, none⟩) hszW).trans q1
        have r2 := (hB.cell (p := ⟨w.heap.size, 2, none⟩) hszW).trans q2
        have r3 := (hB.cell (p := ⟨w.heap.size + 1, 0, none⟩) hszW1).trans p0
        have r4 := (hB.cell (p := ⟨w.heap.size + 1, 1, none⟩) hszW1).trans p1
        have r5 := (hB.cell (p := ⟨w.heap.size + 1, 2, none⟩) hszW1).trans p2
        have hneg := impl_Negm_any
        go_wp2_with fail
        clear hneg
        refine (impl_Negm_any _ _ _ _ _ _ _ _ _ _ ((hs2.below hB).more hB.size) ((hg2.below hB).more hB.size) (by omega) (by omega)).mono ?_
        rw [gIf_t i2, gIf_t i2, gIfI_t i2, codeM_t i2]
        rintro e w4 ⟨v1, v2, rfl, ho1, ho2, -, hb4⟩
        obtain ⟨NA, nc, rfl, sn1⟩ := ho1.sl HOS.out
        obtain ⟨NB, nd, rfl, sn2⟩ := ho2.sl HNR.out
        have hB4 := hB.trans (hb4.mono hB.size)
        clear r0 r1 r2 r3 r4 r5 ho1 ho2 hb4
        have r0 := (hB4.cell (p := ⟨w.heap.size, 0, none⟩) hszW).trans q0
        have r1 := (hB4.cell (p := ⟨w.heap.size, 1, none⟩) hszW).trans q1
        have r2 := (hB4.cell (p := ⟨w.heap.size, 2, none⟩) hszW).trans q2
        have r3 := (hB4.cell (p := ⟨w.heap.size + 1, 0, none⟩) hszW1).trans p0
        have r4 := (hB4.cell (p := ⟨w.heap.size + 1, 1, none⟩) hszW1).trans p1
        have r5 := (hB4.cell (p := ⟨w.heap.size + 1, 2, none⟩) hszW1).trans p2
        have hz4 := hB4.size
        have hw4 : w.heap.size < w4.heap.size := by omega
        have hw5 : w.heap.size + 1 < w4.heap.size := by omega
        go_wp2_with fail
        have hB5 := hB4.trans (((Below.refl w4.heap.size w4).alloc (Nat.le_refl _) (.cells #[.slice NA os2.length nc, .int .i64 d2, .slice NB (negL (d2 : Int) vs2).length nd] 28)).mono hB4.size)
        have ha4 : (w4.alloc (.cells #[.slice NA os2.length nc, .int .i64 d2, .slice NB (negL (d2 : Int) vs2).length nd] 28)).heap.size = w4.heap.size + 1 := by simp
        refine (HSUM.out _ _ _ _ _ _ _ _ _ _ _ _ _ ((hs1.below hB5).more hB5.size) ((hg1.below hB5).more hB5.size) ((sn1.alloc (Nat.le_refl _) _).more (by rw [ha4]; omega)) ((sn2.alloc (Nat.le_refl _) _).more (by rw [ha4]; omega)) (by omega) (by omega) (by omega) (by omega)).mono ?_
        rintro e w6 ⟨rfl, hb6⟩
        have hB6 := hB5.trans (hb6.mono hB5.size)
        clear r0 r1 r2 r3 r4 r5 hb6 hw4 hw5 ha4 sn1 sn2
        go_wp2_with fail
        refine bodyPost_ret (v := .tuple #[.bool false, .int .i64 3]) (by simp [results, Tryd.results26, go_sem]) rfl ?_
        exact ⟨by rw [hC.out, hR.out], hbW.trans ((hB6.trans ((Below.refl _ _).alloc (Nat.le_refl _) _ |>.mono hB6.size)).mono (Nat.le_of_lt hszW))⟩
set_option maxHeartbeats 8000000 in
theorem spec_AE_any (w : World) (A1 : Option Addr) (n1 c1 : Nat) (os1 : List Int) (D1 : Int) (B1 : Option Addr) (m1 k1 : Nat) (vs1 : List Int) (A2 : Option Addr) (n2 c2 : Nat) (os2 : List Int) (D2 : Int) (B2 : Option Addr) (m2 k2 : Nat) (vs2 : List Int)
    (h1 : Sl w w.heap.size A1 n1 c1 os1) (g1 : Sl w w.heap.size B1 m1 k1 vs1) (h2 : Sl w w.heap.size A2 n2 c2 os2) (g2 : Sl w w.heap.size B2 m2 k2 vs2) (hn1 : n1 ≤ 1048576) (hm1 : m1 ≤ 1048576) (hn2 : n2 ≤ 1048576) (hm2 : m2 ≤ 1048576) :
    Calls Tryd.prog 25 #[.agg #[.slice A1 n1 c1, .int .i64 D1, .slice B1 m1 k1], .agg #[.slice A2 n2 c2, .int .i64 D2, .slice B2 m2 k2]] w (ReB w (aeB os1 D1 vs1 os2 D2 vs2) (aeC os1 D1 vs1 os2 D2 vs2)) := by
  obtain rfl := h1.len
  obtain rfl := g1.len
  obtain rfl := h2.len
  obtain rfl := g2.len
  cases i1 : isM os1 D1 vs1 with
  | false =>
    have hno : ¬ AeOk os1 D1 vs1 os2 D2 vs2 := fun h => by rw [isM_t h.1] at i1; cases i1
    have hC := hide (show aeC os1 D1 vs1 os2 D2 vs2 = 1 by unfold aeC; rw [if_neg hno]; unfold noC; rw [i1]; rfl)
    have hR := hide (show aeB os1 D1 vs1 os2 D2 vs2 = false by unfold aeB; rw [if_neg hno])
    clear hno
    go_enter Tryd.func25, Tryd.ntmps25
    go_wp2_with fail
    obtain ⟨W, hW⟩ : ∃ W, (w.alloc (.cells #[.slice A1 os1.length c1, .int .i64 D1, .slice B1 vs1.length k1] 28)).alloc (.cells #[.slice A2 os2.length c2, .int .i64 D2, .slice B2 vs2.length k2] 28) = W := ⟨_, rfl⟩
    have hbW : Below w.heap.size w W := by rw [← hW]; exact (by repeat (first | assumption | exact Below.refl _ _ | apply below_drewN | apply Below.drew | apply Below.alloc | apply Below.setCell | omega | (focus (simp; done)) | (focus (simp; omega))))
    have hsW := hide (show W.heap.size = w.heap.size + 2 by rw [← hW]; simp)
    have hszW : w.heap.size < W.heap.size := by rw [hsW.out]; omega
    have hszW1 : w.heap.size + 1 < W.heap.size := by rw [hsW.out]; omega
    have bM : Blk W w.heap.size 28 #[.slice A1 os1.length c1, .int .i64 D1, .slice B1 vs1.length k1] := by rw [← hW]; exact (Blk.new _ _ _).alloc _
    have bN : Blk W (w.heap.size + 1) 28 #[.slice A2 os2.length c2, .int .i64 D2, .slice B2 vs2.length k2] := by rw [← hW]; exact Blk.new' _ _ _ _ (by simp)
    rw [hW]
    clear hW
    have hs1 := (h1.below hbW).more (Nat.le_of_lt hszW)
    have hg1 := (g1.below hbW).more (Nat.le_of_lt hszW)
    have hs2 := (h2.below hbW).more (Nat.le_of_lt hszW)
    have hg2 := (g2.below hbW).more (Nat.le_of_lt hszW)
    have q0 := bM.cell 0
    have q1 := bM.cell 1
    have q2 := bM.cell 2
    have p0 := bN.cell 0
    have p1 := bN.cell 1
    have p2 := bN.cell 2
    go_wp2_with fail
    refine (l10Is_v false _ _ _ _ _ _ _ _ _ _ hs1 hg1 hn1 hm1 i1).mono ?_
    rintro e w2 ⟨rfl, hb2⟩
    go_wp2_with fail
    refine bodyPost_ret (v := .tuple #[.bool false, .int .i64 1]) (by simp [results, Tryd.results25, go_sem]) rfl ?_
    exact ⟨by rw [hC.out, hR.out], hbW.trans (hb2.mono (Nat.le_of_lt hszW))⟩
  | true =>
    cases i2 : isM os2 D2 vs2 with
    | false =>
      have hno : ¬ AeOk os1 D1 vs1 os2 D2 vs2 := fun h => by rw [isM_t h.2.1] at i2; cases i2
      have hC := hide (show aeC os1 D1 vs1 os2 D2 vs2 = 1 by unfold aeC; rw [if_neg hno]; unfold noC; rw [i1, i2]; rfl)
      have hR := hide (show aeB os1 D1 vs1 os2 D2 vs2 = false by unfold aeB; rw [if_neg hno])
      clear hno
      go_enter Tryd.func25, Tryd.ntmps25
      go_wp2_with fail
      obtain ⟨W, hW⟩ : ∃ W, (w.alloc (.cells #[.slice A1 os1.length c1, .int .i64 D1, .slice B1 vs1.length k1] 28)).alloc (.cells #[.slice A2 os2.length c2, .int .i64 D2, .slice B2 vs2.length k2] 28) = W := ⟨_, rfl⟩
      have hbW : Below w.heap.size w W := by rw [← hW]; exact (by repeat (first | assumption | exact Below.refl _ _ | apply below_drewN | apply Below.drew | apply Below.alloc | apply Below.setCell | omega | (focus (simp; done)) | (focus (simp; omega))))
      have hsW := hide (show W.heap.size = w.heap.size + 2 by rw [← hW]; simp)
      have hszW : w.heap.size < W.heap.size := by rw [hsW.out]; omega
      have hszW1 : w.heap.size + 1 < W.heap.size := by rw [hsW.out]; omega
      have bM : Blk W w.heap.size 28 #[.slice A1 os1.length c1, .int .i64 D1, .slice B1 vs1.length k1] := by rw [← hW]; exact (Blk.new _ _ _).alloc _
      have bN : Blk W (w.heap.size + 1) 28 #[.slice A2 os2.length c2, .int .i64 D2, .slice B2 vs2.length k2] := by rw [← hW]; exact Blk.new' _ _ _ _ (by simp)
      rw [hW]
      clear hW
      have hs1 := (h1.below hbW).more (Nat.le_of_lt hszW)
      have hg1 := (g1.below hbW).more (Nat.le_of_lt hszW)
      have hs2 := (h2.below hbW).more (Nat.le_of_lt hszW)
      have hg2 := (g2.below hbW).more (Nat.le_of_lt hszW)
      have q0 := bM.cell 0
      have q1 := bM.cell 1
      have q2 := bM.cell 2
      have p0 := bN.cell 0
      have p1 := bN.cell 1
      have p2 := bN.cell 2
      go_wp2_with fail
      refine (l10Is_v true _ _ _ _ _ _ _ _ _ _ hs1 hg1 hn1 hm1 i1).mono ?_
      rintro e w2 ⟨rfl, hb2⟩
      have r0 := (hb2.cell (p := ⟨w.heap.size, 0, none⟩) hszW).trans q0
      have r1 := (hb2.cell (p := ⟨w.heap.size, 1, none⟩) hszW).trans q1
      have r2 := (hb2.cell (p := ⟨w.heap.size, 2, none⟩) hszW).trans q2
      have r3 := (hb2.cell (p := ⟨w.heap.size + 1, 0, none⟩) hszW1).trans p0
      have r4 := (hb2.cell (p := ⟨w.heap.size + 1, 1, none⟩) hszW1).trans p1
      have r5 := (hb2.cell (p := ⟨w.heap.size + 1, 2, none⟩) hszW1).trans p2
      go_wp2_with fail
      refine (l10Is_v false _ _ _ _ _ _ _ _ _ _ ((hs2.below hb2).more hb2.size) ((hg2.below hb2).more hb2.size) hn2 hm2 i2).mono ?_
      rintro e w3 ⟨rfl, hb3⟩
      have k3 := hb2.trans (hb3.mono hb2.size)
      clear r0 r1 r2 r3 r4 r5
      go_wp2_with fail
      refine bodyPost_ret (v := .tuple #[.bool false, .int .i64 1]) (by simp [results, Tryd.results25, go_sem]) rfl ?_
      exact ⟨by rw [hC.out, hR.out], hbW.trans (k3.mono (Nat.le_of_lt hszW))⟩
    | true =>
      have hM1 := isM_iff.1 i1
      have hM2 := isM_iff.1 i2
      have hG1 := hM1.ok.g
      have hG2 := hM2.ok.g
      have hv1 := hM1.ok.lt
      have hv2 := hM2.ok.lt
      have hq1 := hG1.ge
      have hq2 := hG2.ge
      have hle1 := hG1.l4
      have hle2 := hG2.l4
      have hpp1 := hG1.p16
      have hpp2 := hG2.p16
      have o1 := hM1.ord
      have o2 := hM2.ord
      unfold ordB at o1 o2
      obtain ⟨o1a, o1b⟩ := of_decide_eq_true o1
      obtain ⟨o2a, o2b⟩ := of_decide_eq_true o2
      obtain ⟨d1, rfl⟩ := Int.eq_ofNat_of_zero_le (show 0 ≤ D1 by omega)
      obtain ⟨d2, rfl⟩ := Int.eq_ofNat_of_zero_le (show 0 ≤ D2 by omega)
      have hQ := sumQ_at (D1 := d1) (D2 := d2) (Int.ofNat.inj (show ((55440 % d1 : Nat) : Int) = ((0 : Nat) : Int) by rw [Int.natCast_emod]; exact o1b)) (Int.ofNat.inj (show ((55440 % d2 : Nat) : Int) = ((0 : Nat) : Int) by rw [Int.natCast_emod]; exact o2b)) (by omega) (by omega)
      have hNM := neg_isM hM2
      clear o1 o2 o1b o2b
      by_cases hok : AeOk os1 d1 vs1 os2 d2 vs2
      · have hC := hide (show aeC os1 d1 vs1 os2 d2 vs2 = 0 by unfold aeC; rw [if_pos hok])
        have hR := hide (show aeB os1 d1 vs1 os2 d2 vs2 = decide (0 < (aeL os1 d1 vs1 os2 d2 vs2).length) by unfold aeB; rw [if_pos hok]; simp only [Int.toNat_natCast])
        obtain ⟨-, -, hP, hLn⟩ := hok
        have hK := cat_ok hM1.ok hNM.ok hQ hP hLn
        obtain ⟨hal, har⟩ := aeL_sub hK
        have HAR := hide har
        have hLE := hide (show lagK (os1 ++ os2) (sD d1 d2 : Nat) (sumL (sD d1 d2) (sD d1 d2 / d1) (sD d1 d2 / d2) vs1 (negL (d2 : Int) vs2)) = aeL os1 d1 vs1 os2 d2 vs2 from rfl)
        clear har
        go_enter Tryd.func25, Tryd.ntmps25
        go_wp2_with fail
        obtain ⟨W, hW⟩ : ∃ W, (w.alloc (.cells #[.slice A1 os1.length c1, .int .i64 (d1 : Int), .slice B1 vs1.length k1] 28)).alloc (.cells #[.slice A2 os2.length c2, .int .i64 (d2 : Int), .slice B2 vs2.length k2] 28) = W := ⟨_, rfl⟩
        have hbW : Below w.heap.size w W := by rw [← hW]; exact (by repeat (first | assumption | exact Below.refl _ _ | apply below_drewN | apply Below.drew | apply Below.alloc | apply Below.setCell | omega | (focus (simp; done)) | (focus (simp; omega))))
        have hsW := hide (show W.heap.size = w.heap.size + 2 by rw [← hW]; simp)
        have hszW : w.heap.size < W.heap.size := by rw [hsW.out]; omega
        have hszW1 : w.heap.size + 1 < W.heap.size := by rw [hsW.out]; omega
        have bM : Blk W w.heap.size 28 #[.slice A1 os1.length c1, .int .i64 (d1 : Int), .slice B1 vs1.length k1] := by rw [← hW]; exact (Blk.new _ _ _).alloc _
        have bN : Blk W (w.heap.size + 1) 28 #[.slice A2 os2.length c2, .int .i64 (d2 : Int), .slice B2 vs2.length k2] := by rw [← hW]; exact Blk.new' _ _ _ _ (by simp)
        rw [hW]
        clear hW
        have hs1 := (h1.below hbW).more (Nat.le_of_lt hszW)
        have hg1 := (g1.below hbW).more (Nat.le_of_lt hszW)
        have hs2 := (h2.below hbW).more (Nat.le_of_lt hszW)
        have hg2 := (g2.below hbW).more (Nat.le_of_lt hszW)
        have q0 := bM.cell 0
        have q1 := bM.cell 1
        have q2 := bM.cell 2
        have p0 := bN.cell 0
        have p1 := bN.cell 1
        have p2 := bN.cell 2
        go_wp2_with fail
        refine (l10Is_v true _ _ _ _ _ _ _ _ _ _ hs1 hg1 (by omega) (by omega) i1).mono ?_
        rintro e w2 ⟨rfl, hb2⟩
        have r0 := (hb2.cell (p := ⟨w.heap.size, 0, none⟩) hszW).trans q0
        have r1 := (hb2.cell (p := ⟨w.heap.size, 1, none⟩) hszW).trans q1
        have r2 := (hb2.cell (p := ⟨w.heap.size, 2, none⟩) hszW).trans q2
        have r3 := (hb2.cell (p := ⟨w.heap.size + 1, 0, none⟩) hszW1).trans p0
        have r4 := (hb2.cell (p := ⟨w.heap.size + 1, 1, none⟩) hszW1).trans p1
        have r5 := (hb2.cell (p := ⟨w.heap.size + 1, 2, none⟩) hszW1).trans p2
        go_wp2_with fail
        refine (l10Is_v true _ _ _ _ _ _ _ _ _ _ ((hs2.below hb2).more hb2.size) ((hg2.below hb2).more hb2.size) (by omega) (by omega) i2).mono ?_
        rintro e w3 ⟨rfl, hb3⟩
        have hB := hb2.trans (hb3.mono hb2.size)
        clear r0 r1 r2 r3 r4 r5 hb2 hb3
        have hb0 : 0 ≤ prodL os1 * prodL os2 := Int.mul_nonneg (by omega) (by omega)
        obtain ⟨P0, hP0⟩ : ∃ P0, prodL os1 * prodL os2 = P0 := ⟨_, rfl⟩
        have hP' := hP
        rw [hP0] at hP' hb0
        have s1 : IntKind.i64.wrap (prodL os1 * prodL os2) = P0 := by rw [hP0]; exact wrap_in (by omega) (by omega)
        have s2 : IntKind.i64.wrap ((os1.length : Int) + (os2.length : Int)) = (os1.length : Int) + (os2.length : Int) := wrap_in (by omega) (by omega)
        have s4 : decide ((16 : Int) < P0) = false := by rw [decide_eq_false_iff_not]; omega
        have s5 : decide ((4 : Int) < (os1.length : Int) + (os2.length : Int)) = false := by rw [decide_eq_false_iff_not]; omega
        clear hP0
        have HOS := hide (show ∀ x ∈ os2, i64ok x from fun x hx => by have := hG2.m2 x hx; have := hG2.m16 x hx; exact ⟨by omega, by omega⟩)
        have HNR := hide (show ∀ x ∈ negL (d2 : Int) vs2, i64ok x from fun x hx => by have := hNM.ok.rng x hx; have := hM2.ok.d2; exact ⟨by omega, by omega⟩)
        have hsum := fun W A1 n1 c1 B1 m1 k1 A2 n2 c2 B2 m2 k2 a b c d => l10Sum_any W A1 n1 c1 os1 d1 B1 m1 k1 vs1 A2 n2 c2 os2 d2 B2 m2 k2 (negL (d2 : Int) vs2) a b c d hM1.ok hNM.ok _ _ _ _ _ hQ
        obtain ⟨LL, hLL⟩ : ∃ LL, sumL (sD d1 d2) (sD d1 d2 / d1) (sD d1 d2 / d2) vs1 (negL (d2 : Int) vs2) = LL := ⟨_, rfl⟩
        obtain ⟨o12, ho12⟩ : ∃ o, os1 ++ os2 = o := ⟨_, rfl⟩
        simp only [hLL, ho12] at hK hLE hsum
        obtain ⟨sd, hsd⟩ : ∃ sd, sD d1 d2 = sd := ⟨_, rfl⟩
        simp only [hsd] at hK hLE hsum
        have HR1 := hide (show ∀ x ∈ o12, i64ok x from fun x hx => by have := hK.g.m2 x hx; have := hK.g.m16 x hx; exact ⟨by omega, by omega⟩)
        have HR2 := hide (show ∀ x ∈ LL, i64ok x from fun x hx => by have := hK.rng x hx; have := hK.d2; exact ⟨by omega, by omega⟩)
        have HK := hide hK
        have HSUM := hide hsum
        clear hLL ho12 hsd hQ hK hsum
        go_wp2_with fail
        refine wp_region_be [0, 1, 3, 4, 2, 5, 6, 7, 8, 9, 10, 11, 12, 13, 14, 15, 16, 17] 18 W.heap.size W (by kernel_rfl) (by kernel_rfl) (by kernel_rfl) (fun _ _ _ _ _ h => h) hB (fun wd hBe => ?_)
        repeat (first | (apply ord_tk rfl (by rfl) (by rfl) (by rfl); (focus (intro wx hSw; have r0 := (hSw.cell (p := ⟨w.heap.size, 0, none⟩) hszW).trans q0; have r1 := (hSw.cell (p := ⟨w.heap.size, 1, none⟩) hszW).trans q1; have r2 := (hSw.cell (p := ⟨w.heap.size, 2, none⟩) hszW).trans q2; have r3 := (hSw.cell (p := ⟨w.heap.size + 1, 0, none⟩) hszW1).trans p0; have r4 := (hSw.cell (p := ⟨w.heap.size + 1, 1, none⟩) hszW1).trans p1; have r5 := (hSw.cell (p := ⟨w.heap.size + 1, 2, none⟩) hszW1).trans p2; go_simp; (try with_reducible rfl))); (try simp only [Act.put, List.setIfInBounds_toArray, List.set_cons_zero, List.set_cons_succ])) | (apply ord_skip rfl (by rfl) (by rfl) (fun _ => hBe); (try simp only [Act.put, List.setIfInBounds_toArray, List.set_cons_zero, List.set_cons_succ])))
        refine ord_do rfl (by rfl) (by rfl) (fun K hK => ?_)
        go_simp
        refine (((l10Size_any _ _ _ _ _ _ (hs1.below hBe) hG1).mono fun _ _ h => Qt.re h)).mono ?_
        rintro e wd' ⟨rfl, hwd⟩
        replace hBe := hBe.trans (hwd.mono hBe.size)
        clear hwd
        refine hK.out _ _ (fun _ => hBe) ?_
        (try simp only [Act.put, List.setIfInBounds_toArray, List.set_cons_zero, List.set_cons_succ])
        clear hK K
        repeat (first | (apply ord_tk rfl (by rfl) (by rfl) (by rfl); (focus (intro wx hSw; have r0 := (hSw.cell (p := ⟨w.heap.size, 0, none⟩) hszW).trans q0; have r1 := (hSw.cell (p := ⟨w.heap.size, 1, none⟩) hszW).trans q1; have r2 := (hSw.cell (p := ⟨w.heap.size, 2, none⟩) hszW).trans q2; have r3 := (hSw.cell (p := ⟨w.heap.size + 1, 0, none⟩) hszW1).trans p0; have r4 := (hSw.cell (p := ⟨w.heap.size + 1, 1, none⟩) hszW1).trans p1; have r5 := (hSw.cell (p := ⟨w.heap.size + 1, 2, none⟩) hszW1).trans p2; go_simp; (try with_reducible rfl))); (try simp only [Act.put, List.setIfInBounds_toArray, List.set_cons_zero, List.set_cons_succ])) | (apply ord_skip rfl (by rfl) (by rfl) (fun _ => hBe); (try simp only [Act.put, List.setIfInBounds_toArray, List.set_cons_zero, List.set_cons_succ])))
        refine ord_do rfl (by rfl) (by rfl) (fun K hK => ?_)
        go_simp
        refine (((l10Size_any _ _ _ _ _ _ (hs2.below hBe) hG2).mono fun _ _ h => Qt.re h)).mono ?_
        rintro e wd' ⟨rfl, hwd⟩
        replace hBe := hBe.trans (hwd.mono hBe.size)
        clear hwd
        refine hK.out _ _ (fun _ => hBe) ?_
        (try simp only [Act.put, List.setIfInBounds_toArray, List.set_cons_zero, List.set_cons_succ])
        clear hK K
        repeat (first | (apply ord_tk rfl (by rfl) (by rfl) (by rfl); (focus (intro wx hSw; have r0 := (hSw.cell (p := ⟨w.heap.size, 0, none⟩) hszW).trans q0; have r1 := (hSw.cell (p := ⟨w.heap.size, 1, none⟩) hszW).trans q1; have r2 := (hSw.cell (p := ⟨w.heap.size, 2, none⟩) hszW).trans q2; have r3 := (hSw.cell (p := ⟨w.heap.size + 1, 0, none⟩) hszW1).trans p0; have r4 := (hSw.cell (p := ⟨w.heap.size + 1, 1, none⟩) hszW1).trans p1; have r5 := (hSw.cell (p := ⟨w.heap.size + 1, 2, none⟩) hszW1).trans p2; go_simp; (try with_reducible rfl))); (try simp only [Act.put, List.setIfInBounds_toArray, List.set_cons_zero, List.set_cons_succ])) | (apply ord_skip rfl (by rfl) (by rfl) (fun _ => hBe); (try simp only [Act.put, List.setIfInBounds_toArray, List.set_cons_zero, List.set_cons_succ])))
        refine ord_nil ?_
        clear s1 s2 hB
        go_wp2_with fail
        have hB := hBe
        refine wp_region_be [0, 1, 2, 3, 4, 5, 6, 7, 8] 7 W.heap.size W (by kernel_rfl) (by kernel_rfl) (by kernel_rfl) (fun _ _ _ _ _ h => h) hB (fun wd hBe => ?_)
        repeat (first | (apply ord_tk rfl (by rfl) (by rfl) (by rfl); (focus (intro wx hSw; have r0 := (hSw.cell (p := ⟨w.heap.size, 0, none⟩) hszW).trans q0; have r1 := (hSw.cell (p := ⟨w.heap.size, 1, none⟩) hszW).trans q1; have r2 := (hSw.cell (p := ⟨w.heap.size, 2, none⟩) hszW).trans q2; have r3 := (hSw.cell (p := ⟨w.heap.size + 1, 0, none⟩) hszW1).trans p0; have r4 := (hSw.cell (p := ⟨w.heap.size + 1, 1, none⟩) hszW1).trans p1; have r5 := (hSw.cell (p := ⟨w.heap.size + 1, 2, none⟩) hszW1).trans p2; go_simp; (try with_reducible rfl))); (try simp only [Act.put, List.setIfInBounds_toArray, List.set_cons_zero, List.set_cons_succ])) | (apply ord_skip rfl (by rfl) (by rfl) (fun _ => hBe); (try simp only [Act.put, List.setIfInBounds_toArray, List.set_cons_zero, List.set_cons_succ])))
        refine ord_do rfl (by rfl) (by rfl) (fun K hK => ?_)
        go_simp
        refine (l10Minus_any _ _ _ _ _ _ _ _ _ _ ((hs2.below hBe).more hBe.size) ((hg2.below hBe).more hBe.size) hM2.ok).mono ?_
        rintro e w4 ⟨v1, v2, rfl, ho1, ho2, -, hb4⟩
        obtain ⟨NA, nc, rfl, sn1⟩ := ho1.sl HOS.out
        obtain ⟨NB, nd, rfl, sn2⟩ := ho2.sl HNR.out
        replace hBe := hBe.trans (hb4.mono hBe.size)
        refine hK.out _ _ (fun _ => hBe) ?_
        (try simp only [Act.put, List.setIfInBounds_toArray, List.set_cons_zero, List.set_cons_succ])
        clear hK K
        clear ho1 ho2 hb4
        repeat (first | (apply ord_tk rfl (by rfl) (by rfl) (by rfl); (focus (intro wx hSw; have r0 := (hSw.cell (p := ⟨w.heap.size, 0, none⟩) hszW).trans q0; have r1 := (hSw.cell (p := ⟨w.heap.size, 1, none⟩) hszW).trans q1; have r2 := (hSw.cell (p := ⟨w.heap.size, 2, none⟩) hszW).trans q2; have r3 := (hSw.cell (p := ⟨w.heap.size + 1, 0, none⟩) hszW1).trans p0; have r4 := (hSw.cell (p := ⟨w.heap.size + 1, 1, none⟩) hszW1).trans p1; have r5 := (hSw.cell (p := ⟨w.heap.size + 1, 2, none⟩) hszW1).trans p2; go_simp; (try with_reducible rfl))); (try simp only [Act.put, List.setIfInBounds_toArray, List.set_cons_zero, List.set_cons_succ])) | (apply ord_skip rfl (by rfl) (by rfl) (fun _ => hBe); (try simp only [Act.put, List.setIfInBounds_toArray, List.set_cons_zero, List.set_cons_succ])))
        refine ord_do rfl (by rfl) (by rfl) (fun K hK => ?_)
        go_simp
        refine (HSUM.out _ _ _ _ _ _ _ _ _ _ _ _ _ ((hs1.below hBe).more hBe.size) ((hg1.below hBe).more hBe.size) sn1 sn2).mono ?_
        rintro e w6 ⟨v1, v2, rfl, ho1, ho2, -, hb6⟩
        obtain ⟨SA, sc, rfl, ss1⟩ := ho1.sl HR1.out
        obtain ⟨SB, se, rfl, ss2⟩ := ho2.sl HR2.out
        replace hBe := hBe.trans (hb6.mono hBe.size)
        refine hK.out _ _ (fun _ => hBe) ?_
        (try simp only [Act.put, List.setIfInBounds_toArray, List.set_cons_zero, List.set_cons_succ])
        clear hK K
        clear ho1 ho2 hb6
        repeat (first | (apply ord_tk rfl (by rfl) (by rfl) (by rfl); (focus (intro wx hSw; have r0 := (hSw.cell (p := ⟨w.heap.size, 0, none⟩) hszW).trans q0; have r1 := (hSw.cell (p := ⟨w.heap.size, 1, none⟩) hszW).trans q1; have r2 := (hSw.cell (p := ⟨w.heap.size, 2, none⟩) hszW).trans q2; have r3 := (hSw.cell (p := ⟨w.heap.size + 1, 0, none⟩) hszW1).trans p0; have r4 := (hSw.cell (p := ⟨w.heap.size + 1, 1, none⟩) hszW1).trans p1; have r5 := (hSw.cell (p := ⟨w.heap.size + 1, 2, none⟩) hszW1).trans p2; go_simp; (try with_reducible rfl))); (try simp only [Act.put, List.setIfInBounds_toArray, List.set_cons_zero, List.set_cons_succ])) | (apply ord_skip rfl (by rfl) (by rfl) (fun _ => hBe); (try simp only [Act.put, List.setIfInBounds_toArray, List.set_cons_zero, List.set_cons_succ])))
        refine ord_do rfl (by rfl) (by rfl) (fun K hK => ?_)
        go_simp
        refine (l11Lag_any _ _ _ _ o12 _ _ _ _ LL ss1 ss2 HK.out).mono ?_
        rw [hLE.out]
        rintro e w8 ⟨v8, rfl, hV8, hb8⟩
        obtain ⟨G, cg, rfl, sg⟩ := hV8.sl HAR.out
        have hB8 := hBe.trans (hb8.mono hBe.size)
        refine hK.out _ _ (fun _ => hB8) ?_
        (try simp only [Act.put, List.setIfInBounds_toArray, List.set_cons_zero, List.set_cons_succ])
        clear hK K
        replace hBe := hB8
        clear sg hV8 hb8 ss1 ss2 sn1 sn2
        obtain ⟨al, hal2⟩ : ∃ al, (aeL os1 d1 vs1 os2 d2 vs2).length = al := ⟨_, rfl⟩
        have HRR := hide (show aeB os1 d1 vs1 os2 d2 vs2 = decide (0 < al) by rw [← hal2]; exact hR.out)
        rw [hal2]
        clear hal2 hal
        by_cases h0 : 0 < al
        · have hR2 := hide (show aeB os1 d1 vs1 os2 d2 vs2 = true by rw [HRR.out]; exact decide_eq_true h0)
          have h0i : (0 : Int) < (al : Int) := by omega
          have HH := hide h0
          clear h0
          repeat (first | (apply ord_tk rfl (by rfl) (by rfl) (by rfl); (focus (intro wx hSw; have r0 := (hSw.cell (p := ⟨w.heap.size, 0, none⟩) hszW).trans q0; have r1 := (hSw.cell (p := ⟨w.heap.size, 1, none⟩) hszW).trans q1; have r2 := (hSw.cell (p := ⟨w.heap.size, 2, none⟩) hszW).trans q2; have r3 := (hSw.cell (p := ⟨w.heap.size + 1, 0, none⟩) hszW1).trans p0; have r4 := (hSw.cell (p := ⟨w.heap.size + 1, 1, none⟩) hszW1).trans p1; have r5 := (hSw.cell (p := ⟨w.heap.size + 1, 2, none⟩) hszW1).trans p2; go_simp; (try with_reducible rfl))); (try simp only [Act.put, List.setIfInBounds_toArray, List.set_cons_zero, List.set_cons_succ])) | (apply ord_skip rfl (by rfl) (by rfl) (fun _ => hBe); (try simp only [Act.put, List.setIfInBounds_toArray, List.set_cons_zero, List.set_cons_succ])))
          refine ord_do rfl (by rfl) (by rfl) (fun K hK => ?_)
          go_simp
          refine hK.out _ _ (fun h => absurd h (by omega)) ?_
          (try simp only [Act.put, List.setIfInBounds_toArray, List.set_cons_zero, List.set_cons_succ])
          clear hK K
          refine ord_do rfl (by rfl) (by rfl) (fun K hK => ?_)
          go_simp
          refine hK.out _ _ (fun h => absurd h (by omega)) ?_
          (try simp only [Act.put, List.setIfInBounds_toArray, List.set_cons_zero, List.set_cons_succ])
          clear hK K
          refine ord_nil ?_
          go_wp2_with fail
          refine bodyPost_ret (v := .tuple #[.bool true, .int .i64 0]) (by simp [results, Tryd.results25, go_sem]; have := HH.out; omega) rfl ?_
          exact ⟨by rw [hC.out, hR2.out], hbW.trans (hB8.mono (Nat.le_of_lt hszW))⟩
        · have hR2 := hide (show aeB os1 d1 vs1 os2 d2 vs2 = false by rw [HRR.out]; exact decide_eq_false h0)
          have h0i : ¬ (0 : Int) < (al : Int) := by omega
          have HH := hide h0
          clear h0
          repeat (first | (apply ord_tk rfl (by rfl) (by rfl) (by rfl); (focus (intro wx hSw; have r0 := (hSw.cell (p := ⟨w.heap.size, 0, none⟩) hszW).trans q0; have r1 := (hSw.cell (p := ⟨w.heap.size, 1, none⟩) hszW).trans q1; have r2 := (hSw.cell (p := ⟨w.heap.size, 2, none⟩) hszW).trans q2; have r3 := (hSw.cell (p := ⟨w.heap.size + 1, 0, none⟩) hszW1).trans p0; have r4 := (hSw.cell (p := ⟨w.heap.size + 1, 1, none⟩) hszW1).trans p1; have r5 := (hSw.cell (p := ⟨w.heap.size + 1, 2, none⟩) hszW1).trans p2; go_simp; (try with_reducible rfl))); (try simp only [Act.put, List.setIfInBounds_toArray, List.set_cons_zero, List.set_cons_succ])) | (apply ord_skip rfl (by rfl) (by rfl) (fun _ => hBe); (try simp only [Act.put, List.setIfInBounds_toArray, List.set_cons_zero, List.set_cons_succ])))
          refine ord_do rfl (by rfl) (by rfl) (fun K hK => ?_)
          go_simp
          refine hK.out _ _ (fun h => absurd h (by omega)) ?_
          (try simp only [Act.put, List.setIfInBounds_toArray, List.set_cons_zero, List.set_cons_succ])
          clear hK K
          refine ord_do rfl (by rfl) (by rfl) (fun K hK => ?_)
          go_simp
          refine hK.out _ _ (fun h => absurd h (by omega)) ?_
          (try simp only [Act.put, List.setIfInBounds_toArray, List.set_cons_zero, List.set_cons_succ])
          clear hK K
          refine ord_nil ?_
          go_wp2_with fail
          refine bodyPost_ret (v := .tuple #[.bool false, .int .i64 0]) (by simp [results, Tryd.results25, go_sem]; have := HH.out; omega) rfl ?_
          exact ⟨by rw [hC.out, hR2.out], hbW.trans (hB8.mono (Nat.le_of_lt hszW))⟩
      · have hC := hide (show aeC os1 d1 vs1 os2 d2 vs2 = 3 by unfold aeC; rw [if_neg hok]; unfold noC; rw [i1, i2]; rfl)
        have hR := hide (show aeB os1 d1 vs1 os2 d2 vs2 = false by unfold aeB; rw [if_neg hok])
        have hbad : ¬ (prodL os1 * prodL os2 ≤ 16 ∧ os1.length + os2.length ≤ 4) := fun h => hok ⟨hM1, hM2, h⟩
        clear hok
        go_enter Tryd.func25, Tryd.ntmps25
        go_wp2_with fail
        obtain ⟨W, hW⟩ : ∃ W, (w.alloc (.cells #[.slice A1 os1.length c1, .int .i64 (d1 : Int), .slice B1 vs1.length k1] 28)).alloc (.cells #[.slice A2 os2.length c2, .int .i64 (d2 : Int), .slice B2 vs2.length k2] 28) = W := ⟨_, rfl⟩
        have hbW : Below w.heap.size w W := by rw [← hW]; exact (by repeat (first | assumption | exact Below.refl _ _ | apply below_drewN | apply Below.drew | apply Below.alloc | apply Below.setCell | omega | (focus (simp; done)) | (focus (simp; omega))))
        have hsW := hide (show W.heap.size = w.heap.size + 2 by rw [← hW]; simp)
        have hszW : w.heap.size < W.heap.size := by rw [hsW.out]; omega
        have hszW1 : w.heap.size + 1 < W.heap.size := by rw [hsW.out]; omega
        have bM : Blk W w.heap.size 28 #[.slice A1 os1.length c1, .int .i64 (d1 : Int), .slice B1 vs1.length k1] := by rw [← hW]; exact (Blk.new _ _ _).alloc _
        have bN : Blk W (w.heap.size + 1) 28 #[.slice A2 os2.length c2, .int .i64 (d2 : Int), .slice B2 vs2.length k2] := by rw [← hW]; exact Blk.new' _ _ _ _ (by simp)
        rw [hW]
        clear hW
        have hs1 := (h1.below hbW).more (Nat.le_of_lt hszW)
        have hg1 := (g1.below hbW).more (Nat.le_of_lt hszW)
        have hs2 := (h2.below hbW).more (Nat.le_of_lt hszW)
        have hg2 := (g2.below hbW).more (Nat.le_of_lt hszW)
        have q0 := bM.cell 0
        have q1 := bM.cell 1
        have q2 := bM.cell 2
        have p0 := bN.cell 0
        have p1 := bN.cell 1
        have p2 := bN.cell 2
        go_wp2_with fail
        refine (l10Is_v true _ _ _ _ _ _ _ _ _ _ hs1 hg1 (by omega) (by omega) i1).mono ?_
        rintro e w2 ⟨rfl, hb2⟩
        have r0 := (hb2.cell (p := ⟨w.heap.size, 0, none⟩) hszW).trans q0
        have r1 := (hb2.cell (p := ⟨w.heap.size, 1, none⟩) hszW).trans q1
        have r2 := (hb2.cell (p := ⟨w.heap.size, 2, none⟩) hszW).trans q2
        have r3 := (hb2.cell (p := ⟨w.heap.size + 1, 0, none⟩) hszW1).trans p0
        have r4 := (hb2.cell (p := ⟨w.heap.size + 1, 1, none⟩) hszW1).trans p1
        have r5 := (hb2.cell (p := ⟨w.heap.size + 1, 2, none⟩) hszW1).trans p2
        go_wp2_with fail
        refine (l10Is_v true _ _ _ _ _ _ _ _ _ _ ((hs2.below hb2).more hb2.size) ((hg2.below hb2).more hb2.size) (by omega) (by omega) i2).mono ?_
        rintro e w3 ⟨rfl, hb3⟩
        have hB := hb2.trans (hb3.mono hb2.size)
        clear r0 r1 r2 r3 r4 r5 hb2 hb3
        have hb0 : 0 ≤ prodL os1 * prodL os2 := Int.mul_nonneg (by omega) (by omega)
        have hb9 : prodL os1 * prodL os2 ≤ 16 * 16 := Int.mul_le_mul hpp1 hpp2 (by omega) (by omega)
        obtain ⟨P0, hP0⟩ : ∃ P0, prodL os1 * prodL os2 = P0 := ⟨_, rfl⟩
        rw [hP0] at hb0 hb9 hbad
        have s1 : IntKind.i64.wrap (prodL os1 * prodL os2) = P0 := by rw [hP0]; exact wrap_in (by omega) (by omega)
        have s2 : IntKind.i64.wrap ((os1.length : Int) + (os2.length : Int)) = (os1.length : Int) + (os2.length : Int) := wrap_in (by omega) (by omega)
        clear hP0 hQ
        by_cases hP : P0 ≤ 16
        · have s4 : decide ((16 : Int) < P0) = false := by rw [decide_eq_false_iff_not]; omega
          have s5 : decide ((4 : Int) < (os1.length : Int) + (os2.length : Int)) = true := by rw [decide_eq_true_eq]; omega
          clear hbad
          go_wp2_with fail
          refine wp_region_be [0, 1, 3, 4, 2, 5, 6, 7, 8, 9, 10, 11, 12, 13, 14, 15, 16, 17] 18 W.heap.size W (by kernel_rfl) (by kernel_rfl) (by kernel_rfl) (fun _ _ _ _ _ h => h) hB (fun wd hBe => ?_)
          repeat (first | (apply ord_tk rfl (by rfl) (by rfl) (by rfl); (focus (intro wx hSw; have r0 := (hSw.cell (p := ⟨w.heap.size, 0, none⟩) hszW).trans q0; have r1 := (hSw.cell (p := ⟨w.heap.size, 1, none⟩) hszW).trans q1; have r2 := (hSw.cell (p := ⟨w.heap.size, 2, none⟩) hszW).trans q2; have r3 := (hSw.cell (p := ⟨w.heap.size + 1, 0, none⟩) hszW1).trans p0; have r4 := (hSw.cell (p := ⟨w.heap.size + 1, 1, none⟩) hszW1).trans p1; have r5 := (hSw.cell (p := ⟨w.heap.size + 1, 2, none⟩) hszW1).trans p2; go_simp; (try with_reducible rfl))); (try simp only [Act.put, List.setIfInBounds_toArray, List.set_cons_zero, List.set_cons_succ])) | (apply ord_skip rfl (by rfl) (by rfl) (fun _ => hBe); (try simp only [Act.put, List.setIfInBounds_toArray, List.set_cons_zero, List.set_cons_succ])))
          refine ord_do rfl (by rfl) (by rfl) (fun K hK => ?_)
          go_simp
          refine (((l10Size_any _ _ _ _ _ _ (hs1.below hBe) hG1).mono fun _ _ h => Qt.re h)).mono ?_
          rintro e wd' ⟨rfl, hwd⟩
          replace hBe := hBe.trans (hwd.mono hBe.size)
          clear hwd
          refine hK.out _ _ (fun _ => hBe) ?_
          (try simp only [Act.put, List.setIfInBounds_toArray, List.set_cons_zero, List.set_cons_succ])
          clear hK K
          repeat (first | (apply ord_tk rfl (by rfl) (by rfl) (by rfl); (focus (intro wx hSw; have r0 := (hSw.cell (p := ⟨w.heap.size, 0, none⟩) hszW).trans q0; have r1 := (hSw.cell (p := ⟨w.heap.size, 1, none⟩) hszW).trans q1; have r2 := (hSw.cell (p := ⟨w.heap.size, 2, none⟩) hszW).trans q2; have r3 := (hSw.cell (p := ⟨w.heap.size + 1, 0, none⟩) hszW1).trans p0; have r4 := (hSw.cell (p := ⟨w.heap.size + 1, 1, none⟩) hszW1).trans p1; have r5 := (hSw.cell (p := ⟨w.heap.size + 1, 2, none⟩) hszW1).trans p2; go_simp; (try with_reducible rfl))); (try simp only [Act.put, List.setIfInBounds_toArray, List.set_cons_zero, List.set_cons_succ])) | (apply ord_skip rfl (by rfl) (by rfl) (fun _ => hBe); (try simp only [Act.put, List.setIfInBounds_toArray, List.set_cons_zero, List.set_cons_succ])))
          refine ord_do rfl (by rfl) (by rfl) (fun K hK => ?_)
          go_simp
          refine (((l10Size_any _ _ _ _ _ _ (hs2.below hBe) hG2).mono fun _ _ h => Qt.re h)).mono ?_
          rintro e wd' ⟨rfl, hwd⟩
          replace hBe := hBe.trans (hwd.mono hBe.size)
          clear hwd
          refine hK.out _ _ (fun _ => hBe) ?_
          (try simp only [Act.put, List.setIfInBounds_toArray, List.set_cons_zero, List.set_cons_succ])
          clear hK K
          repeat (first | (apply ord_tk rfl (by rfl) (by rfl) (by rfl); (focus (intro wx hSw; have r0 := (hSw.cell (p := ⟨w.heap.size, 0, none⟩) hszW).trans q0; have r1 := (hSw.cell (p := ⟨w.heap.size, 1, none⟩) hszW).trans q1; have r2 := (hSw.cell (p := ⟨w.heap.size, 2, none⟩) hszW).trans q2; have r3 := (hSw.cell (p := ⟨w.heap.size + 1, 0, none⟩) hszW1).trans p0; have r4 := (hSw.cell (p := ⟨w.heap.size + 1, 1, none⟩) hszW1).trans p1; have r5 := (hSw.cell (p := ⟨w.heap.size + 1, 2, none⟩) hszW1).trans p2; go_simp; (try with_reducible rfl))); (try simp only [Act.put, List.setIfInBounds_toArray, List.set_cons_zero, List.set_cons_succ])) | (apply ord_skip rfl (by rfl) (by rfl) (fun _ => hBe); (try simp only [Act.put, List.setIfInBounds_toArray, List.set_cons_zero, List.set_cons_succ])))
          refine ord_nil ?_
          clear s1 s2 hB
          go_wp2_with fail
          refine bodyPost_ret (v := .tuple #[.bool false, .int .i64 3]) (by simp [results, Tryd.results25, go_sem]) rfl ?_
          exact ⟨by rw [hC.out, hR.out], hbW.trans (hBe.mono (Nat.le_of_lt hszW))⟩
        · have s4 : decide ((16 : Int) < P0) = true := by rw [decide_eq_true_eq]; omega
          clear hbad
          go_wp2_with fail
          refine wp_region_be [0, 1, 3, 4, 2, 5, 6, 7, 8, 9, 10, 11, 12, 13, 14, 15, 16, 17] 18 W.heap.size W (by kernel_rfl) (by kernel_rfl) (by kernel_rfl) (fun _ _ _ _ _ h => h) hB (fun wd hBe => ?_)
          repeat (first | (apply ord_tk rfl (by rfl) (by rfl) (by rfl); (focus (intro wx hSw; have r0 := (hSw.cell (p := ⟨w.heap.size, 0, none⟩) hszW).trans q0; have r1 := (hSw.cell (p := ⟨w.heap.size, 1, none⟩) hszW).trans q1; have r2 := (hSw.cell (p := ⟨w.heap.size, 2, none⟩) hszW).trans q2; have r3 := (hSw.cell (p := ⟨w.heap.size + 1, 0, none⟩) hszW1).trans p0; have r4 := (hSw.cell (p := ⟨w.heap.size + 1, 1, none⟩) hszW1).trans p1; have r5 := (hSw.cell (p := ⟨w.heap.size + 1, 2, none⟩) hszW1).trans p2; go_simp; (try with_reducible rfl))); (try simp only [Act.put, List.setIfInBounds_toArray, List.set_cons_zero, List.set_cons_succ])) | (apply ord_skip rfl (by rfl) (by rfl) (fun _ => hBe); (try simp only [Act.put, List.setIfInBounds_toArray, List.set_cons_zero, List.set_cons_succ])))
          refine ord_do rfl (by rfl) (by rfl) (fun K hK => ?_)
          go_simp
          refine (((l10Size_any _ _ _ _ _ _ (hs1.below hBe) hG1).mono fun _ _ h => Qt.re h)).mono ?_
          rintro e wd' ⟨rfl, hwd⟩
          replace hBe := hBe.trans (hwd.mono hBe.size)
          clear hwd
          refine hK.out _ _ (fun _ => hBe) ?_
          (try simp only [Act.put, List.setIfInBounds_toArray, List.set_cons_zero, List.set_cons_succ])
          clear hK K
          repeat (first | (apply ord_tk rfl (by rfl) (by rfl) (by rfl); (focus (intro wx hSw; have r0 := (hSw.cell (p := ⟨w.heap.size, 0, none⟩) hszW).trans q0; have r1 := (hSw.cell (p := ⟨w.heap.size, 1, none⟩) hszW).trans q1; have r2 := (hSw.cell (p := ⟨w.heap.size, 2, none⟩) hszW).trans q2; have r3 := (hSw.cell (p := ⟨w.heap.size + 1, 0, none⟩) hszW1).trans p0; have r4 := (hSw.cell (p := ⟨w.heap.size + 1, 1, none⟩) hszW1).trans p1; have r5 := (hSw.cell (p := ⟨w.heap.size + 1, 2, none⟩) hszW1).trans p2; go_simp; (try with_reducible rfl))); (try simp only [Act.put, List.setIfInBounds_toArray, List.set_cons_zero, List.set_cons_succ])) | (apply ord_skip rfl (by rfl) (by rfl) (fun _ => hBe); (try simp only [Act.put, List.setIfInBounds_toArray, List.set_cons_zero, List.set_cons_succ])))
          refine ord_do rfl (by rfl) (by rfl) (fun K hK => ?_)
          go_simp
          refine (((l10Size_any _ _ _ _ _ _ (hs2.below hBe) hG2).mono fun _ _ h => Qt.re h)).mono ?_
          rintro e wd' ⟨rfl, hwd⟩
          replace hBe := hBe.trans (hwd.mono hBe.size)
          clear hwd
          refine hK.out _ _ (fun _ => hBe) ?_
          (try simp only [Act.put, List.setIfInBounds_toArray, List.set_cons_zero, List.set_cons_succ])
          clear hK K
          repeat (first | (apply ord_tk rfl (by rfl) (by rfl) (by rfl); (focus (intro wx hSw; have r0 := (hSw.cell (p := ⟨w.heap.size, 0, none⟩) hszW).trans q0; have r1 := (hSw.cell (p := ⟨w.heap.size, 1, none⟩) hszW).trans q1; have r2 := (hSw.cell (p := ⟨w.heap.size, 2, none⟩) hszW).trans q2; have r3 := (hSw.cell (p := ⟨w.heap.size + 1, 0, none⟩) hszW1).trans p0; have r4 := (hSw.cell (p := ⟨w.heap.size + 1, 1, none⟩) hszW1).trans p1; have r5 := (hSw.cell (p := ⟨w.heap.size + 1, 2, none⟩) hszW1).trans p2; go_simp; (try with_reducible rfl))); (try simp only [Act.put, List.setIfInBounds_toArray, List.set_cons_zero, List.set_cons_succ])) | (apply ord_skip rfl (by rfl) (by rfl) (fun _ => hBe); (try simp only [Act.put, List.setIfInBounds_toArray, List.set_cons_zero, List.set_cons_succ])))
          refine ord_nil ?_
          clear s1 s2 hB
          go_wp2_with fail
          refine bodyPost_ret (v := .tuple #[.bool false, .int .i64 3]) (by simp [results, Tryd.results25, go_sem]) rfl ?_
          exact ⟨by rw [hC.out, hR.out], hbW.trans (hBe.mono (Nat.le_of_lt hszW))⟩
noncomputable def aeX (x y : metric_T) : Bool := aeB x.1 x.2.1 x.2.2 y.1 y.2.1 y.2.2
noncomputable def aeK (x y : metric_T) : Int := aeC x.1 x.2.1 x.2.2 y.1 y.2.1 y.2.2
theorem specAE_c (w : World) (v : Value) (x : metric_T) (h : metric_R w w.heap.size v x) (hs : metric_Sh x) (u : Value) (y : metric_T) (h' : metric_R w w.heap.size u y) (hs' : metric_Sh y) :
    Calls Tryd.prog 25 #[v, u] w (ReB w (aeX x y) (aeK x y)) := by
  obtain ⟨A, n, c, D, m, e, rfl, a1, a2, a3⟩ := h
  obtain ⟨A', n', c', D', m', e', rfl, b1, b2, b3⟩ := h'
  have hs2 : x.1.length + x.2.2.length ≤ 1048576 := hs
  have hs3 : y.1.length + y.2.2.length ≤ 1048576 := hs'
  have l1 := a1.len
  have l2 := a2.len
  have l3 := b1.len
  have l4 := b2.len
  exact spec_AE_any w A n c x.1 x.2.1 D m e x.2.2 A' n' c' y.1 y.2.1 D' m' e' y.2.2 a1 a2 b1 b2 (by omega) (by omega) (by omega) (by omega)
theorem implAE_c (w : World) (v : Value) (x : metric_T) (h : metric_R w w.heap.size v x) (hs : metric_Sh x) (u : Value) (y : metric_T) (h' : metric_R w w.heap.size u y) (hs' : metric_Sh y) (hT : Tb w) :
    Calls Tryd.prog 26 #[v, u] w (ReB w (aeX x y) (aeK x y)) := by
  obtain ⟨A, n, c, D, m, e, rfl, a1, a2, a3⟩ := h
  obtain ⟨A', n', c', D', m', e', rfl, b1, b2, b3⟩ := h'
  have hs2 : x.1.length + x.2.2.length ≤ 1048576 := hs
  have hs3 : y.1.length + y.2.2.length ≤ 1048576 := hs'
  have l1 := a1.len
  have l2 := a2.len
  have l3 := b1.len
  have l4 := b2.len
  exact impl_AE_any w A n c x.1 x.2.1 D m e x.2.2 A' n' c' y.1 y.2.1 D' m' e' y.2.2 a1 a2 b1 b2 (by omega) (by omega) (by omega) (by omega) hT
set_option maxHeartbeats 8000000 in
set_option maxRecDepth 100000 in
theorem law_AreEquivalentMetrics {w : World} (hT : Tb w) (v0 : Value) (x0 : metric_T) (HA0 : metric_R w w.heap.size v0 x0) (HB0 : metric_Big x0) (v1 : Value) (x1 : metric_T) (HA1 : metric_R w w.heap.size v1 x1) (HB1 : metric_Big x1) : Calls Tryd.prog 7 #[v0, v1] w (Re w (.bool true)) := by
  obtain ⟨A0, n0, c0, z0, D0, m0, e0, rfl, hf⟩ := metric_form HA0
  clear hf
  obtain ⟨A1, n1, c1, z1, D1, m1, e1, rfl, hf⟩ := metric_form HA1
  clear hf
  by_cases q0 : (1048576 : Int) - (metric_tot x0 : Int) < 0
  · have HZ0 := hide (fun (W : World) (h : Below w.heap.size w W) => metric_sz W _ x0 1048576 (metric_keep HA0 h h.size) HB0 (by omega) (by omega))
    rw [szI_no q0] at HZ0
    go_enter Tryd.func7, Tryd.ntmps7
    go_wp2_with fail
    obtain ⟨W, hW⟩ : ∃ W, (w.alloc (.cells #[.slice A0 n0 c0, .int .i64 z0, .slice D0 m0 e0] 24)).alloc (.cells #[.slice A1 n1 c1, .int .i64 z1, .slice D1 m1 e1] 24) = W := ⟨_, rfl⟩
    have kw : Below w.heap.size w W := by rw [← hW]; exact (by repeat (first | assumption | exact Below.refl _ _ | apply below_drewN | apply Below.drew | apply Below.alloc | apply Below.setCell | omega | (focus (simp; done)) | (focus (simp; omega))))
    have bA0 : Blk W (w.heap.size) 24 #[.slice A0 n0 c0, .int .i64 z0, .slice D0 m0 e0] := by rw [← hW]; exact (Blk.new' _ _ _ _ (by simp)).alloc _
    have sA0 : w.heap.size < W.heap.size := bA0.lt
    have bA1 : Blk W (w.heap.size + 1) 24 #[.slice A1 n1 c1, .int .i64 z1, .slice D1 m1 e1] := by rw [← hW]; exact (Blk.new' _ _ _ _ (by simp))
    have sA1 : w.heap.size + 1 < W.heap.size := bA1.lt
    rw [hW]
    clear hW
    refine (HZ0.out _ kw).mono ?_
    rintro e ws0 ⟨rfl, hb⟩
    replace kw := kw.trans (hb.mono kw.size)
    replace bA0 := bA0.all hb
    replace sA0 := Nat.lt_of_lt_of_le sA0 hb.size
    replace bA1 := bA1.all hb
    replace sA1 := Nat.lt_of_lt_of_le sA1 hb.size
    clear hb
    have bA0c0 := bA0.cell 0
    have bA0c1 := bA0.cell 1
    have bA0c2 := bA0.cell 2
    have bA1c0 := bA1.cell 0
    have bA1c1 := bA1.cell 1
    have bA1c2 := bA1.cell 2
    go_wp2_with fail
    clear bA0c0 bA0c1 bA0c2 bA1c0 bA1c1 bA1c2
    go_ret
    exact ⟨rfl, kw⟩
  · have HZ0 := hide (fun (W : World) (h : Below w.heap.size w W) => metric_sz W _ x0 1048576 (metric_keep HA0 h h.size) HB0 (by omega) (by omega))
    rw [szI_ok q0] at HZ0
    have HS0 : metric_tot x0 ≤ 1048576 := by omega
    obtain ⟨l1, el1⟩ : ∃ l, (1048576 : Int) - (metric_tot x0 : Int) = l := ⟨_, rfl⟩
    have bl1a : 0 ≤ l1 := by omega
    have bl1b : l1 ≤ 1048576 := by omega
    rw [el1] at HZ0
    clear el1 q0
    by_cases q1 : (l1 : Int) - (metric_tot x1 : Int) < 0
    · have HZ1 := hide (fun (W : World) (h : Below w.heap.size w W) => metric_sz W _ x1 l1 (metric_keep HA1 h h.size) HB1 (by omega) (by omega))
      rw [szI_no q1] at HZ1
      go_enter Tryd.func7, Tryd.ntmps7
      go_wp2_with fail
      obtain ⟨W, hW⟩ : ∃ W, (w.alloc (.cells #[.slice A0 n0 c0, .int .i64 z0, .slice D0 m0 e0] 24)).alloc (.cells #[.slice A1 n1 c1, .int .i64 z1, .slice D1 m1 e1] 24) = W := ⟨_, rfl⟩
      have kw : Below w.heap.size w W := by rw [← hW]; exact (by repeat (first | assumption | exact Below.refl _ _ | apply below_drewN | apply Below.drew | apply Below.alloc | apply Below.setCell | omega | (focus (simp; done)) | (focus (simp; omega))))
      have bA0 : Blk W (w.heap.size) 24 #[.slice A0 n0 c0, .int .i64 z0, .slice D0 m0 e0] := by rw [← hW]; exact (Blk.new' _ _ _ _ (by simp)).alloc _
      have sA0 : w.heap.size < W.heap.size := bA0.lt
      have bA1 : Blk W (w.heap.size + 1) 24 #[.slice A1 n1 c1, .int .i64 z1, .slice D1 m1 e1] := by rw [← hW]; exact (Blk.new' _ _ _ _ (by simp))
      have sA1 : w.heap.size + 1 < W.heap.size := bA1.lt
      rw [hW]
      clear hW
      refine (HZ0.out _ kw).mono ?_
      rintro e ws0 ⟨rfl, hb⟩
      replace kw := kw.trans (hb.mono kw.size)
      replace bA0 := bA0.all hb
      replace sA0 := Nat.lt_of_lt_of_le sA0 hb.size
      replace bA1 := bA1.all hb
      replace sA1 := Nat.lt_of_lt_of_le sA1 hb.size
      clear hb
      have bA0c0 := bA0.cell 0
      have bA0c1 := bA0.cell 1
      have bA0c2 := bA0.cell 2
      have bA1c0 := bA1.cell 0
      have bA1c1 := bA1.cell 1
      have bA1c2 := bA1.cell 2
      go_wp2_with fail
      clear bA0c0 bA0c1 bA0c2 bA1c0 bA1c1 bA1c2
      refine (HZ1.out _ kw).mono ?_
      rintro e ws1 ⟨rfl, hb⟩
      replace kw := kw.trans (hb.mono kw.size)
      replace bA0 := bA0.all hb
      replace sA0 := Nat.lt_of_lt_of_le sA0 hb.size
      replace bA1 := bA1.all hb
      replace sA1 := Nat.lt_of_lt_of_le sA1 hb.size
      clear hb
      have bA0c0 := bA0.cell 0
      have bA0c1 := bA0.cell 1
      have bA0c2 := bA0.cell 2
      have bA1c0 := bA1.cell 0
      have bA1c1 := bA1.cell 1
      have bA1c2 := bA1.cell 2
      go_wp2_with fail
      clear bA0c0 bA0c1 bA0c2 bA1c0 bA1c1 bA1c2
      go_ret
      exact ⟨rfl, kw⟩
    · have HZ1 := hide (fun (W : World) (h : Below w.heap.size w W) => metric_sz W _ x1 l1 (metric_keep HA1 h h.size) HB1 (by omega) (by omega))
      rw [szI_ok q1] at HZ1
      have HS1 : metric_tot x1 ≤ 1048576 := by omega
      obtain ⟨l2, el2⟩ : ∃ l, (l1 : Int) - (metric_tot x1 : Int) = l := ⟨_, rfl⟩
      have bl2a : 0 ≤ l2 := by omega
      have bl2b : l2 ≤ 1048576 := by omega
      rw [el2] at HZ1
      clear el2 q1
      have SH0 := metric_sh HS0
      have SL0 := metric_sumle x0
      have SH1 := metric_sh HS1
      have SL1 := metric_sumle x1
      obtain ⟨y0, hy0⟩ : ∃ y : Bool, aeX x0 x1 = y := ⟨_, rfl⟩
      have HY0 := hide hy0
      clear hy0
      obtain ⟨y1, hy1⟩ : ∃ y : Int, aeK x0 x1 = y := ⟨_, rfl⟩
      have HY1 := hide hy1
      clear hy1
      go_enter Tryd.func7, Tryd.ntmps7
      go_wp2_with fail
      obtain ⟨W, hW⟩ : ∃ W, (w.alloc (.cells #[.slice A0 n0 c0, .int .i64 z0, .slice D0 m0 e0] 24)).alloc (.cells #[.slice A1 n1 c1, .int .i64 z1, .slice D1 m1 e1] 24) = W := ⟨_, rfl⟩
      have kw : Below w.heap.size w W := by rw [← hW]; exact (by repeat (first | assumption | exact Below.refl _ _ | apply below_drewN | apply Below.drew | apply Below.alloc | apply Below.setCell | omega | (focus (simp; done)) | (focus (simp; omega))))
      have bA0 : Blk W (w.heap.size) 24 #[.slice A0 n0 c0, .int .i64 z0, .slice D0 m0 e0] := by rw [← hW]; exact (Blk.new' _ _ _ _ (by simp)).alloc _
      have sA0 : w.heap.size < W.heap.size := bA0.lt
      have bA1 : Blk W (w.heap.size + 1) 24 #[.slice A1 n1 c1, .int .i64 z1, .slice D1 m1 e1] := by rw [← hW]; exact (Blk.new' _ _ _ _ (by simp))
      have sA1 : w.heap.size + 1 < W.heap.size := bA1.lt
      rw [hW]
      clear hW
      refine (HZ0.out _ kw).mono ?_
      rintro e ws0 ⟨rfl, hb⟩
      replace kw := kw.trans (hb.mono kw.size)
      replace bA0 := bA0.all hb
      replace sA0 := Nat.lt_of_lt_of_le sA0 hb.size
      replace bA1 := bA1.all hb
      replace sA1 := Nat.lt_of_lt_of_le sA1 hb.size
      clear hb
      have bA0c0 := bA0.cell 0
      have bA0c1 := bA0.cell 1
      have bA0c2 := bA0.cell 2
      have bA1c0 := bA1.cell 0
      have bA1c1 := bA1.cell 1
      have bA1c2 := bA1.cell 2
      go_wp2_with fail
      clear bA0c0 bA0c1 bA0c2 bA1c0 bA1c1 bA1c2
      refine (HZ1.out _ kw).mono ?_
      rintro e ws1 ⟨rfl, hb⟩
      replace kw := kw.trans (hb.mono kw.size)
      replace bA0 := bA0.all hb
      replace sA0 := Nat.lt_of_lt_of_le sA0 hb.size
      replace bA1 := bA1.all hb
      replace sA1 := Nat.lt_of_lt_of_le sA1 hb.size
      clear hb
      have bA0c0 := bA0.cell 0
      have bA0c1 := bA0.cell 1
      have bA0c2 := bA0.cell 2
      have bA1c0 := bA1.cell 0
      have bA1c1 := bA1.cell 1
      have bA1c2 := bA1.cell 2
      go_wp2_with fail
      clear bA0c0 bA0c1 bA0c2 bA1c0 bA1c1 bA1c2
      have HAl0 := bA0.lt
      have rA0c0 := bA0.cell 0
      have rA0c1 := bA0.cell 1
      have rA0c2 := bA0.cell 2
      have HAl1 := bA1.lt
      have rA1c0 := bA1.cell 0
      have rA1c1 := bA1.cell 1
      have rA1c2 := bA1.cell 2
      refine wp_region_be [0, 2, 1, 3, 4, 5, 6, 7, 8, 9] 9 ws1.heap.size ws1 (by kernel_rfl) (by kernel_rfl) (by kernel_rfl) (fun _ _ _ _ _ h => h) (Below.refl _ _) (fun wd hBe => ?_)
      repeat (first | (apply ord_tk rfl (by rfl) (by rfl) (by rfl); (focus (intro wx hSw; have r00 := (hSw.cell (p := ⟨w.heap.size, 0, none⟩) HAl0).trans rA0c0; have r01 := (hSw.cell (p := ⟨w.heap.size, 1, none⟩) HAl0).trans rA0c1; have r02 := (hSw.cell (p := ⟨w.heap.size, 2, none⟩) HAl0).trans rA0c2; have r10 := (hSw.cell (p := ⟨w.heap.size + 1, 0, none⟩) HAl1).trans rA1c0; have r11 := (hSw.cell (p := ⟨w.heap.size + 1, 1, none⟩) HAl1).trans rA1c1; have r12 := (hSw.cell (p := ⟨w.heap.size + 1, 2, none⟩) HAl1).trans rA1c2; go_simp; (try with_reducible rfl))); (try simp only [Act.put, List.setIfInBounds_toArray, List.set_cons_zero, List.set_cons_succ])) | (apply ord_skip rfl (by rfl) (by rfl) (fun _ => hBe); (try simp only [Act.put, List.setIfInBounds_toArray, List.set_cons_zero, List.set_cons_succ])))
      refine ord_do rfl (by rfl) (by rfl) (fun K hK => ?_)
      go_simp
      have kq := kw.trans (hBe.mono kw.size)
      refine (metric_to _ _ x0 (metric_keep HA0 kq kq.size) SH0).mono ?_
      rintro e t1 ⟨u, rfl, he, hb⟩
      obtain ⟨Aw0, nw0, cw0, zw0, Dw0, mw0, ew0, rfl, hf⟩ := metric_form (metric_rd he)
      clear hf
      replace hBe := hBe.trans (hb.mono hBe.size)
      have Eqw0 := he
      clear he hb kq
      refine hK.out _ _ (fun _ => hBe) ?_
      (try simp only [Act.put, List.setIfInBounds_toArray, List.set_cons_zero, List.set_cons_succ])
      clear hK K
      repeat (first | (apply ord_tk rfl (by rfl) (by rfl) (by rfl); (focus (intro wx hSw; have r00 := (hSw.cell (p := ⟨w.heap.size, 0, none⟩) HAl0).trans rA0c0; have r01 := (hSw.cell (p := ⟨w.heap.size, 1, none⟩) HAl0).trans rA0c1; have r02 := (hSw.cell (p := ⟨w.heap.size, 2, none⟩) HAl0).trans rA0c2; have r10 := (hSw.cell (p := ⟨w.heap.size + 1, 0, none⟩) HAl1).trans rA1c0; have r11 := (hSw.cell (p := ⟨w.heap.size + 1, 1, none⟩) HAl1).trans rA1c1; have r12 := (hSw.cell (p := ⟨w.heap.size + 1, 2, none⟩) HAl1).trans rA1c2; go_simp; (try with_reducible rfl))); (try simp only [Act.put, List.setIfInBounds_toArray, List.set_cons_zero, List.set_cons_succ])) | (apply ord_skip rfl (by rfl) (by rfl) (fun _ => hBe); (try simp only [Act.put, List.setIfInBounds_toArray, List.set_cons_zero, List.set_cons_succ])))
      refine ord_do rfl (by rfl) (by rfl) (fun K hK => ?_)
      go_simp
      have kq := kw.trans (hBe.mono kw.size)
      refine (metric_to _ _ x1 (metric_keep HA1 kq kq.size) SH1).mono ?_
      rintro e t2 ⟨u, rfl, he, hb⟩
      obtain ⟨Aw1, nw1, cw1, zw1, Dw1, mw1, ew1, rfl, hf⟩ := metric_form (metric_rd he)
      clear hf
      replace Eqw0 := metric_below Eqw0 hb
      replace hBe := hBe.trans (hb.mono hBe.size)
      have Eqw1 := he
      clear he hb kq
      refine hK.out _ _ (fun _ => hBe) ?_
      (try simp only [Act.put, List.setIfInBounds_toArray, List.set_cons_zero, List.set_cons_succ])
      clear hK K
      repeat (first | (apply ord_tk rfl (by rfl) (by rfl) (by rfl); (focus (intro wx hSw; have r00 := (hSw.cell (p := ⟨w.heap.size, 0, none⟩) HAl0).trans rA0c0; have r01 := (hSw.cell (p := ⟨w.heap.size, 1, none⟩) HAl0).trans rA0c1; have r02 := (hSw.cell (p := ⟨w.heap.size, 2, none⟩) HAl0).trans rA0c2; have r10 := (hSw.cell (p := ⟨w.heap.size + 1, 0, none⟩) HAl1).trans rA1c0; have r11 := (hSw.cell (p := ⟨w.heap.size + 1, 1, none⟩) HAl1).trans rA1c1; have r12 := (hSw.cell (p := ⟨w.heap.size + 1, 2, none⟩) HAl1).trans rA1c2; go_simp; (try with_reducible rfl))); (try simp only [Act.put, List.setIfInBounds_toArray, List.set_cons_zero, List.set_cons_succ])) | (apply ord_skip rfl (by rfl) (by rfl) (fun _ => hBe); (try simp only [Act.put, List.setIfInBounds_toArray, List.set_cons_zero, List.set_cons_succ])))
      refine ord_do rfl (by rfl) (by rfl) (fun K hK => ?_)
      go_simp
      have kq := kw.trans (hBe.mono kw.size)
      have hcl := (specAE_c t2 _ x0 (metric_rd Eqw0) SH0 _ x1 (metric_rd Eqw1) SH1)
      rw [HY0.out, HY1.out] at hcl
      have HCL := hide hcl
      clear hcl
      refine HCL.out.mono ?_
      rintro e t3 ⟨rfl, hb⟩
      clear HCL
      replace hBe := hBe.trans (hb.mono hBe.size)
      clear hb kq Eqw0 Eqw1
      refine hK.out _ _ (fun _ => hBe) ?_
      (try simp only [Act.put, List.setIfInBounds_toArray, List.set_cons_zero, List.set_cons_succ])
      clear hK K
      repeat (first | (apply ord_tk rfl (by rfl) (by rfl) (by rfl); (focus (intro wx hSw; have r00 := (hSw.cell (p := ⟨w.heap.size, 0, none⟩) HAl0).trans rA0c0; have r01 := (hSw.cell (p := ⟨w.heap.size, 1, none⟩) HAl0).trans rA0c1; have r02 := (hSw.cell (p := ⟨w.heap.size, 2, none⟩) HAl0).trans rA0c2; have r10 := (hSw.cell (p := ⟨w.heap.size + 1, 0, none⟩) HAl1).trans rA1c0; have r11 := (hSw.cell (p := ⟨w.heap.size + 1, 1, none⟩) HAl1).trans rA1c1; have r12 := (hSw.cell (p := ⟨w.heap.size + 1, 2, none⟩) HAl1).trans rA1c2; go_simp; (try with_reducible rfl))); (try simp only [Act.put, List.setIfInBounds_toArray, List.set_cons_zero, List.set_cons_succ])) | (apply ord_skip rfl (by rfl) (by rfl) (fun _ => hBe); (try simp only [Act.put, List.setIfInBounds_toArray, List.set_cons_zero, List.set_cons_succ])))
      (first | (refine ord_do rfl (by rfl) (by rfl) (fun K hK => ?_); go_simp; refine hK.out _ _ (fun h => absurd h (by omega)) ?_; (try simp only [Act.put, List.setIfInBounds_toArray, List.set_cons_zero, List.set_cons_succ]); clear hK K) | skip)
      (first | (refine ord_do rfl (by rfl) (by rfl) (fun K hK => ?_); go_simp; refine hK.out _ _ (fun h => absurd h (by omega)) ?_; (try simp only [Act.put, List.setIfInBounds_toArray, List.set_cons_zero, List.set_cons_succ]); clear hK K) | skip)
      refine ord_nil ?_
      have hb := hBe
      clear hBe HAl0 rA0c0 rA0c1 rA0c2 HAl1 rA1c0 rA1c1 rA1c2
      replace kw := kw.trans (hb.mono kw.size)
      replace bA0 := bA0.all hb
      replace sA0 := Nat.lt_of_lt_of_le sA0 hb.size
      replace bA1 := bA1.all hb
      replace sA1 := Nat.lt_of_lt_of_le sA1 hb.size
      clear hb
      have SA0t3 := sA0
      have SA1t3 := sA1
      have Kt3 := kw.size
      have Zt3 := Nat.le_refl t3.heap.size
      have bA0c0 := bA0.cell 0
      have bA0c1 := bA0.cell 1
      have bA0c2 := bA0.cell 2
      have bA1c0 := bA1.cell 0
      have bA1c1 := bA1.cell 1
      have bA1c2 := bA1.cell 2
      go_wp2_with fail
      clear bA0c0 bA0c1 bA0c2 bA1c0 bA1c1 bA1c2
      refine (metric_to _ _ x0 (metric_keep HA0 kw kw.size) SH0).mono ?_
      rintro e t4 ⟨u, rfl, he, hb⟩
      obtain ⟨Ax0, nx0, cx0, zx0, Dx0, mx0, ex0, rfl, hf⟩ := metric_form (metric_rd he)
      clear hf
      have hbs := hb.size
      replace kw := kw.trans (hb.mono kw.size)
      replace bA0 := bA0.all hb
      replace sA0 := Nat.lt_of_lt_of_le sA0 hb.size
      replace bA1 := bA1.all hb
      replace sA1 := Nat.lt_of_lt_of_le sA1 hb.size
      replace Zt3 := Nat.le_trans Zt3 hb.size
      clear hb
      clear hbs
      have EX0 := he
      clear he
      have Ot3t4 := Zt3
      have SA0t4 := sA0
      have SA1t4 := sA1
      have Kt4 := kw.size
      have Zt4 := Nat.le_refl t4.heap.size
      obtain ⟨X0, hX0⟩ : ∃ X, t4.heap.size = X := ⟨_, rfl⟩
      have sA0l2 : w.heap.size < X0 := by omega
      have sA1l2 : w.heap.size + 1 < X0 := by omega
      have bA0c0 := bA0.cell 0
      have bA0c1 := bA0.cell 1
      have bA0c2 := bA0.cell 2
      have bA1c0 := bA1.cell 0
      have bA1c1 := bA1.cell 1
      have bA1c2 := bA1.cell 2
      go_wp2_with fail
      clear bA0c0 bA0c1 bA0c2 bA1c0 bA1c1 bA1c2
      clear sA0l2 sA1l2
      obtain ⟨t5, ht5⟩ : ∃ w5, t4.alloc (.cells #[.slice Ax0 nx0 cx0, .int .i64 zx0, .slice Dx0 mx0 ex0] 28) = w5 := ⟨_, rfl⟩
      have hb : Below t4.heap.size t4 t5 := by rw [← ht5]; exact (Below.refl _ _).alloc (Nat.le_refl _) _
      have bX0 : Blk t5 X0 28 #[.slice Ax0 nx0 cx0, .int .i64 zx0, .slice Dx0 mx0 ex0] := by rw [← ht5]; exact Blk.new' _ _ _ _ hX0
      rw [ht5]
      clear ht5
      replace kw := kw.trans (hb.mono kw.size)
      replace bA0 := bA0.all hb
      replace sA0 := Nat.lt_of_lt_of_le sA0 hb.size
      replace bA1 := bA1.all hb
      replace sA1 := Nat.lt_of_lt_of_le sA1 hb.size
      replace EX0 := metric_below EX0 hb
      replace Zt3 := Nat.le_trans Zt3 hb.size
      replace Zt4 := Nat.le_trans Zt4 hb.size
      clear hb
      have gX0 := bX0.lt
      have Ot3t5 := Zt3
      have Ot4t5 := Zt4
      have SA0t5 := sA0
      have SA1t5 := sA1
      have GbX0t5 := bX0.lt
      have Kt5 := kw.size
      have Zt5 := Nat.le_refl t5.heap.size
      clear gX0
      refine (metric_to _ _ x1 (metric_keep HA1 kw kw.size) SH1).mono ?_
      rintro e t6 ⟨u, rfl, he, hb⟩
      obtain ⟨Ax1, nx1, cx1, zx1, Dx1, mx1, ex1, rfl, hf⟩ := metric_form (metric_rd he)
      clear hf
      have hbs := hb.size
      replace kw := kw.trans (hb.mono kw.size)
      replace bA0 := bA0.all hb
      replace sA0 := Nat.lt_of_lt_of_le sA0 hb.size
      replace bA1 := bA1.all hb
      replace sA1 := Nat.lt_of_lt_of_le sA1 hb.size
      replace bX0 := bX0.all hb
      replace EX0 := metric_below EX0 hb
      replace Zt3 := Nat.le_trans Zt3 hb.size
      replace Zt4 := Nat.le_trans Zt4 hb.size
      replace Zt5 := Nat.le_trans Zt5 hb.size
      clear hb
      clear hbs
      have EX1 := he
      clear he
      have Ot3t6 := Zt3
      have Ot4t6 := Zt4
      have Ot5t6 := Zt5
      have SA0t6 := sA0
      have SA1t6 := sA1
      have GbX0t6 := bX0.lt
      have Kt6 := kw.size
      have Zt6 := Nat.le_refl t6.heap.size
      obtain ⟨X1, hX1⟩ : ∃ X, t6.heap.size = X := ⟨_, rfl⟩
      have bX0l2 : X0 < X1 := by have := bX0.lt; omega
      have sA0l2 : w.heap.size < X1 := by omega
      have sA1l2 : w.heap.size + 1 < X1 := by omega
      have bA0c0 := bA0.cell 0
      have bA0c1 := bA0.cell 1
      have bA0c2 := bA0.cell 2
      have bA1c0 := bA1.cell 0
      have bA1c1 := bA1.cell 1
      have bA1c2 := bA1.cell 2
      have bX0c0 := bX0.cell 0
      have bX0c1 := bX0.cell 1
      have bX0c2 := bX0.cell 2
      have bX0lt := bX0.lt
      go_wp2_with fail
      clear bA0c0 bA0c1 bA0c2 bA1c0 bA1c1 bA1c2 bX0c0 bX0c1 bX0c2 bX0lt
      clear bX0l2 sA0l2 sA1l2
      obtain ⟨t7, ht7⟩ : ∃ w5, t6.alloc (.cells #[.slice Ax1 nx1 cx1, .int .i64 zx1, .slice Dx1 mx1 ex1] 28) = w5 := ⟨_, rfl⟩
      have hb : Below t6.heap.size t6 t7 := by rw [← ht7]; exact (Below.refl _ _).alloc (Nat.le_refl _) _
      have bX1 : Blk t7 X1 28 #[.slice Ax1 nx1 cx1, .int .i64 zx1, .slice Dx1 mx1 ex1] := by rw [← ht7]; exact Blk.new' _ _ _ _ hX1
      rw [ht7]
      clear ht7
      replace kw := kw.trans (hb.mono kw.size)
      replace bA0 := bA0.all hb
      replace sA0 := Nat.lt_of_lt_of_le sA0 hb.size
      replace bA1 := bA1.all hb
      replace sA1 := Nat.lt_of_lt_of_le sA1 hb.size
      replace bX0 := bX0.all hb
      replace EX0 := metric_below EX0 hb
      replace EX1 := metric_below EX1 hb
      replace Zt3 := Nat.le_trans Zt3 hb.size
      replace Zt4 := Nat.le_trans Zt4 hb.size
      replace Zt5 := Nat.le_trans Zt5 hb.size
      replace Zt6 := Nat.le_trans Zt6 hb.size
      clear hb
      have gX1 := bX1.lt
      have Ot3t7 := Zt3
      have Ot4t7 := Zt4
      have Ot5t7 := Zt5
      have Ot6t7 := Zt6
      have SA0t7 := sA0
      have SA1t7 := sA1
      have GbX0t7 := bX0.lt
      have GbX1t7 := bX1.lt
      have Kt7 := kw.size
      have Zt7 := Nat.le_refl t7.heap.size
      clear gX1
      have hcl := (implAE_c t7 _ x0 (metric_rd EX0) SH0 _ x1 (metric_rd EX1) SH1 (hT.bel kw))
      rw [HY0.out, HY1.out] at hcl
      have HCL := hide hcl
      clear hcl
      refine HCL.out.mono ?_
      rintro e t8 ⟨rfl, hb⟩
      clear HCL
      replace kw := kw.trans (hb.mono kw.size)
      replace bA0 := bA0.all hb
      replace sA0 := Nat.lt_of_lt_of_le sA0 hb.size
      replace bA1 := bA1.all hb
      replace sA1 := Nat.lt_of_lt_of_le sA1 hb.size
      replace bX0 := bX0.all hb
      replace bX1 := bX1.all hb
      replace EX0 := metric_below EX0 hb
      replace EX1 := metric_below EX1 hb
      replace Zt3 := Nat.le_trans Zt3 hb.size
      replace Zt4 := Nat.le_trans Zt4 hb.size
      replace Zt5 := Nat.le_trans Zt5 hb.size
      replace Zt6 := Nat.le_trans Zt6 hb.size
      replace Zt7 := Nat.le_trans Zt7 hb.size
      clear hb
      have Ot3t8 := Zt3
      have Ot4t8 := Zt4
      have Ot5t8 := Zt5
      have Ot6t8 := Zt6
      have Ot7t8 := Zt7
      have SA0t8 := sA0
      have SA1t8 := sA1
      have GbX0t8 := bX0.lt
      have GbX1t8 := bX1.lt
      have Kt8 := kw.size
      have Zt8 := Nat.le_refl t8.heap.size
      have bA0c0 := bA0.cell 0
      have bA0c1 := bA0.cell 1
      have bA0c2 := bA0.cell 2
      have bA1c0 := bA1.cell 0
      have bA1c1 := bA1.cell 1
      have bA1c2 := bA1.cell 2
      have bX0c0 := bX0.cell 0
      have bX0c1 := bX0.cell 1
      have bX0c2 := bX0.cell 2
      have bX1c0 := bX1.cell 0
      have bX1c1 := bX1.cell 1
      have bX1c2 := bX1.cell 2
      have bX0lt := bX0.lt
      have bX1lt := bX1.lt
      go_wp2_with fail
      clear bA0c0 bA0c1 bA0c2 bA1c0 bA1c1 bA1c2 bX0c0 bX0c1 bX0c2 bX1c0 bX1c1 bX1c2 bX0lt bX1lt
      have HXl := bX0.lt
      have HAl := bA0.lt
      have rA0 := bA0.cell 0
      have rX0 := bX0.cell 0
      have rA1 := bA0.cell 1
      have rX1 := bX0.cell 1
      have rA2 := bA0.cell 2
      have rX2 := bX0.cell 2
      refine wp_region_be [0, 1, 2, 3, 4] 5 t8.heap.size t8 (by kernel_rfl) (by kernel_rfl) (by kernel_rfl) (fun _ _ _ _ _ h => h) (Below.refl _ _) (fun wd hBe => ?_)
      repeat (first | (apply ord_tk rfl (by rfl) (by rfl) (by rfl); (focus (intro wx hSw; have r0 := (hSw.cell (p := ⟨w.heap.size, 0, none⟩) HAl).trans rA0; have r1 := (hSw.cell (p := ⟨w.heap.size, 1, none⟩) HAl).trans rA1; have r2 := (hSw.cell (p := ⟨w.heap.size, 2, none⟩) HAl).trans rA2; have s0 := (hSw.cell (p := ⟨X0, 0, none⟩) HXl).trans rX0; have s1 := (hSw.cell (p := ⟨X0, 1, none⟩) HXl).trans rX1; have s2 := (hSw.cell (p := ⟨X0, 2, none⟩) HXl).trans rX2; go_simp; (try with_reducible rfl))); (try simp only [Act.put, List.setIfInBounds_toArray, List.set_cons_zero, List.set_cons_succ])) | (apply ord_skip rfl (by rfl) (by rfl) (fun _ => hBe); (try simp only [Act.put, List.setIfInBounds_toArray, List.set_cons_zero, List.set_cons_succ])))
      refine ord_do rfl (by rfl) (by rfl) (fun K hK => ?_)
      go_simp
      have kq := kw.trans (hBe.mono kw.size)
      refine (metric_to _ _ x0 (metric_keep HA0 kq kq.size) SH0).mono ?_
      rintro e wq ⟨u, rfl, he, hb⟩
      obtain ⟨Ar0, nr0, cr0, zr0, Dr0, mr0, er0, rfl, hf⟩ := metric_form (metric_rd he)
      clear hf
      replace hBe := hBe.trans (hb.mono hBe.size)
      clear hb kq
      refine hK.out _ _ (fun _ => hBe) ?_
      (try simp only [Act.put, List.setIfInBounds_toArray, List.set_cons_zero, List.set_cons_succ])
      clear hK K
      repeat (first | (apply ord_tk rfl (by rfl) (by rfl) (by rfl); (focus (intro wx hSw; have r0 := (hSw.cell (p := ⟨w.heap.size, 0, none⟩) HAl).trans rA0; have r1 := (hSw.cell (p := ⟨w.heap.size, 1, none⟩) HAl).trans rA1; have r2 := (hSw.cell (p := ⟨w.heap.size, 2, none⟩) HAl).trans rA2; have s0 := (hSw.cell (p := ⟨X0, 0, none⟩) HXl).trans rX0; have s1 := (hSw.cell (p := ⟨X0, 1, none⟩) HXl).trans rX1; have s2 := (hSw.cell (p := ⟨X0, 2, none⟩) HXl).trans rX2; go_simp; (try with_reducible rfl))); (try simp only [Act.put, List.setIfInBounds_toArray, List.set_cons_zero, List.set_cons_succ])) | (apply ord_skip rfl (by rfl) (by rfl) (fun _ => hBe); (try simp only [Act.put, List.setIfInBounds_toArray, List.set_cons_zero, List.set_cons_succ])))
      refine ord_do rfl (by rfl) (by rfl) (fun K hK => ?_)
      go_simp
      refine (metric_eq _ _ _ x0 x0 (metric_rd (metric_below EX0 hBe)) (metric_rd he) SH0).mono ?_
      rintro e wd' ⟨rfl, hwd⟩
      replace hBe := hBe.trans (hwd.mono hBe.size)
      clear hwd
      refine hK.out _ _ (fun _ => hBe) ?_
      (try simp only [Act.put, List.setIfInBounds_toArray, List.set_cons_zero, List.set_cons_succ])
      clear hK K
      simp only [beq_self_eq_true]
      repeat (first | (apply ord_tk rfl (by rfl) (by rfl) (by rfl); (focus (intro wx hSw; have r0 := (hSw.cell (p := ⟨w.heap.size, 0, none⟩) HAl).trans rA0; have r1 := (hSw.cell (p := ⟨w.heap.size, 1, none⟩) HAl).trans rA1; have r2 := (hSw.cell (p := ⟨w.heap.size, 2, none⟩) HAl).trans rA2; have s0 := (hSw.cell (p := ⟨X0, 0, none⟩) HXl).trans rX0; have s1 := (hSw.cell (p := ⟨X0, 1, none⟩) HXl).trans rX1; have s2 := (hSw.cell (p := ⟨X0, 2, none⟩) HXl).trans rX2; go_simp; (try with_reducible rfl))); (try simp only [Act.put, List.setIfInBounds_toArray, List.set_cons_zero, List.set_cons_succ])) | (apply ord_skip rfl (by rfl) (by rfl) (fun _ => hBe); (try simp only [Act.put, List.setIfInBounds_toArray, List.set_cons_zero, List.set_cons_succ])))
      refine ord_nil ?_
      clear he HXl HAl rA0 rX0 rA1 rX1 rA2 rX2
      obtain ⟨t9, hnz⟩ : ∃ x, x = wd' := ⟨_, rfl⟩
      subst hnz
      have hb := hBe
      clear hBe
      replace kw := kw.trans (hb.mono kw.size)
      replace bA0 := bA0.all hb
      replace sA0 := Nat.lt_of_lt_of_le sA0 hb.size
      replace bA1 := bA1.all hb
      replace sA1 := Nat.lt_of_lt_of_le sA1 hb.size
      replace bX0 := bX0.all hb
      replace bX1 := bX1.all hb
      replace EX0 := metric_below EX0 hb
      replace EX1 := metric_below EX1 hb
      replace Zt3 := Nat.le_trans Zt3 hb.size
      replace Zt4 := Nat.le_trans Zt4 hb.size
      replace Zt5 := Nat.le_trans Zt5 hb.size
      replace Zt6 := Nat.le_trans Zt6 hb.size
      replace Zt7 := Nat.le_trans Zt7 hb.size
      replace Zt8 := Nat.le_trans Zt8 hb.size
      clear hb
      have bA0c0 := bA0.cell 0
      have bA0c1 := bA0.cell 1
      have bA0c2 := bA0.cell 2
      have bA1c0 := bA1.cell 0
      have bA1c1 := bA1.cell 1
      have bA1c2 := bA1.cell 2
      have bX0c0 := bX0.cell 0
      have bX0c1 := bX0.cell 1
      have bX0c2 := bX0.cell 2
      have bX1c0 := bX1.cell 0
      have bX1c1 := bX1.cell 1
      have bX1c2 := bX1.cell 2
      have bX0lt := bX0.lt
      have bX1lt := bX1.lt
      go_wp2_with fail
      clear bA0c0 bA0c1 bA0c2 bA1c0 bA1c1 bA1c2 bX0c0 bX0c1 bX0c2 bX1c0 bX1c1 bX1c2 bX0lt bX1lt
      have HXl := bX1.lt
      have HAl := bA1.lt
      have rA0 := bA1.cell 0
      have rX0 := bX1.cell 0
      have rA1 := bA1.cell 1
      have rX1 := bX1.cell 1
      have rA2 := bA1.cell 2
      have rX2 := bX1.cell 2
      refine wp_region_be [0, 1, 2, 3, 4] 5 t9.heap.size t9 (by kernel_rfl) (by kernel_rfl) (by kernel_rfl) (fun _ _ _ _ _ h => h) (Below.refl _ _) (fun wd hBe => ?_)
      repeat (first | (apply ord_tk rfl (by rfl) (by rfl) (by rfl); (focus (intro wx hSw; have r0 := (hSw.cell (p := ⟨w.heap.size + 1, 0, none⟩) HAl).trans rA0; have r1 := (hSw.cell (p := ⟨w.heap.size + 1, 1, none⟩) HAl).trans rA1; have r2 := (hSw.cell (p := ⟨w.heap.size + 1, 2, none⟩) HAl).trans rA2; have s0 := (hSw.cell (p := ⟨X1, 0, none⟩) HXl).trans rX0; have s1 := (hSw.cell (p := ⟨X1, 1, none⟩) HXl).trans rX1; have s2 := (hSw.cell (p := ⟨X1, 2, none⟩) HXl).trans rX2; go_simp; (try with_reducible rfl))); (try simp only [Act.put, List.setIfInBounds_toArray, List.set_cons_zero, List.set_cons_succ])) | (apply ord_skip rfl (by rfl) (by rfl) (fun _ => hBe); (try simp only [Act.put, List.setIfInBounds_toArray, List.set_cons_zero, List.set_cons_succ])))
      refine ord_do rfl (by rfl) (by rfl) (fun K hK => ?_)
      go_simp
      have kq := kw.trans (hBe.mono kw.size)
      refine (metric_to _ _ x1 (metric_keep HA1 kq kq.size) SH1).mono ?_
      rintro e wq ⟨u, rfl, he, hb⟩
      obtain ⟨Ar1, nr1, cr1, zr1, Dr1, mr1, er1, rfl, hf⟩ := metric_form (metric_rd he)
      clear hf
      replace hBe := hBe.trans (hb.mono hBe.size)
      clear hb kq
      refine hK.out _ _ (fun _ => hBe) ?_
      (try simp only [Act.put, List.setIfInBounds_toArray, List.set_cons_zero, List.set_cons_succ])
      clear hK K
      repeat (first | (apply ord_tk rfl (by rfl) (by rfl) (by rfl); (focus (intro wx hSw; have r0 := (hSw.cell (p := ⟨w.heap.size + 1, 0, none⟩) HAl).trans rA0; have r1 := (hSw.cell (p := ⟨w.heap.size + 1, 1, none⟩) HAl).trans rA1; have r2 := (hSw.cell (p := ⟨w.heap.size + 1, 2, none⟩) HAl).trans rA2; have s0 := (hSw.cell (p := ⟨X1, 0, none⟩) HXl).trans rX0; have s1 := (hSw.cell (p := ⟨X1, 1, none⟩) HXl).trans rX1; have s2 := (hSw.cell (p := ⟨X1, 2, none⟩) HXl).trans rX2; go_simp; (try with_reducible rfl))); (try simp only [Act.put, List.setIfInBounds_toArray, List.set_cons_zero, List.set_cons_succ])) | (apply ord_skip rfl (by rfl) (by rfl) (fun _ => hBe); (try simp only [Act.put, List.setIfInBounds_toArray, List.set_cons_zero, List.set_cons_succ])))
      refine ord_do rfl (by rfl) (by rfl) (fun K hK => ?_)
      go_simp
      refine (metric_eq _ _ _ x1 x1 (metric_rd (metric_below EX1 hBe)) (metric_rd he) SH1).mono ?_
      rintro e wd' ⟨rfl, hwd⟩
      replace hBe := hBe.trans (hwd.mono hBe.size)
      clear hwd
      refine hK.out _ _ (fun _ => hBe) ?_
      (try simp only [Act.put, List.setIfInBounds_toArray, List.set_cons_zero, List.set_cons_succ])
      clear hK K
      simp only [beq_self_eq_true]
      repeat (first | (apply ord_tk rfl (by rfl) (by rfl) (by rfl); (focus (intro wx hSw; have r0 := (hSw.cell (p := ⟨w.heap.size + 1, 0, none⟩) HAl).trans rA0; have r1 := (hSw.cell (p := ⟨w.heap.size + 1, 1, none⟩) HAl).trans rA1; have r2 := (hSw.cell (p := ⟨w.heap.size + 1, 2, none⟩) HAl).trans rA2; have s0 := (hSw.cell (p := ⟨X1, 0, none⟩) HXl).trans rX0; have s1 := (hSw.cell (p := ⟨X1, 1, none⟩) HXl).trans rX1; have s2 := (hSw.cell (p := ⟨X1, 2, none⟩) HXl).trans rX2; go_simp; (try with_reducible rfl))); (try simp only [Act.put, List.setIfInBounds_toArray, List.set_cons_zero, List.set_cons_succ])) | (apply ord_skip rfl (by rfl) (by rfl) (fun _ => hBe); (try simp only [Act.put, List.setIfInBounds_toArray, List.set_cons_zero, List.set_cons_succ])))
      refine ord_nil ?_
      clear he HXl HAl rA0 rX0 rA1 rX1 rA2 rX2
      obtain ⟨t10, hnz⟩ : ∃ x, x = wd' := ⟨_, rfl⟩
      subst hnz
      have hb := hBe
      clear hBe
      replace kw := kw.trans (hb.mono kw.size)
      replace bA0 := bA0.all hb
      replace sA0 := Nat.lt_of_lt_of_le sA0 hb.size
      replace bA1 := bA1.all hb
      replace sA1 := Nat.lt_of_lt_of_le sA1 hb.size
      replace bX0 := bX0.all hb
      replace bX1 := bX1.all hb
      replace EX0 := metric_below EX0 hb
      replace EX1 := metric_below EX1 hb
      replace Zt3 := Nat.le_trans Zt3 hb.size
      replace Zt4 := Nat.le_trans Zt4 hb.size
      replace Zt5 := Nat.le_trans Zt5 hb.size
      replace Zt6 := Nat.le_trans Zt6 hb.size
      replace Zt7 := Nat.le_trans Zt7 hb.size
      replace Zt8 := Nat.le_trans Zt8 hb.size
      clear hb
      go_wp2_with fail
      go_ret
      exact ⟨rfl, kw⟩
end Go.Proofs.YtlekbkjkkoefnaaDoor
