
/- The walk of spec.MetricFrom. -/
import Derived.Test.YtneflhachjlmkaaFR
import Derived.Test.YtneflhachjlmkaaEa
import Derived.WalkLawsBesides
namespace Go.Proofs.Ytneflhachjlmkaa
open Go Go.RowKit Grp
set_option linter.unusedSimpArgs false
set_option linter.unusedVariables false

/-- The arguments are in range. -/
def frm (os : List Int) (D : Int) (sq pr : List Int) : Bool := okG os && ordB D && decide (sq.length = os.length) && decide (pr.length = tri os.length) && allIn 0 (D - 1) sq && allIn 0 (D - 1) pr
def valsF (os : List Int) (D : Int) (sq pr : List Int) : List Int := fromL os D sq pr (prodL os).toNat
noncomputable def mfC (os : List Int) (D : Int) (sq pr : List Int) : Int := if frm os D sq pr = true then if isM os D (valsF os D sq pr) = true then 0 else 5 else 2
def gF (k : Int) (xs : List Int) : List Int := if k = 0 then xs else []
def gFI (k x : Int) : Int := if k = 0 then x else 0
theorem gF_0 (xs : List Int) : gF 0 xs = xs := rfl
theorem gFI_0 (x : Int) : gFI 0 x = x := rfl
theorem gF_n {k : Int} (h : k ≠ 0) (xs : List Int) : gF k xs = [] := by unfold gF; rw [if_neg h]
theorem gFI_n {k : Int} (h : k ≠ 0) (x : Int) : gFI k x = 0 := by unfold gFI; rw [if_neg h]
theorem frm_t {os : List Int} {D : Int} {sq pr : List Int} (h1 : okG os = true) (h2 : ordB D = true) (h3 : sq.length = os.length) (h4 : pr.length = tri os.length) (h5 : allIn 0 (D - 1) sq = true) (h6 : allIn 0 (D - 1) pr = true) : frm os D sq pr = true := by
  simp [frm, h1, h2, h3, h4, h5, h6]
theorem tri_eq : ∀ n : Nat, n ≤ 4 → 0 ≤ (n : Int) * ((n : Int) - 1) ∧ (n : Int) * ((n : Int) - 1) ≤ 12 ∧ ((n : Int) * ((n : Int) - 1)).tdiv 2 = (tri n : Int) := by decide
theorem allIn_mem {lo hi : Int} {xs : List Int} (h : allIn lo hi xs = true) : ∀ x ∈ xs, lo ≤ x ∧ x ≤ hi := fun x hx => by
  have := List.all_eq_true.1 h x hx
  simpa [inB] using this
theorem fromL_rng {os : List Int} {D : Int} (hD : 1 ≤ D) {sq pr : List Int} {k : Nat} : ∀ x ∈ fromL os D sq pr k, 0 ≤ x ∧ x < D := fun x hx => by
  unfold fromL at hx
  obtain ⟨j, hj, rfl⟩ := List.mem_map.1 hx
  exact ⟨Int.emod_nonneg _ (by omega), Int.emod_lt_of_pos _ (by omega)⟩

set_option maxRecDepth 100000 in
set_option maxHeartbeats 8000000 in
theorem spec_Mf_any (w : World) (A : Option Addr) (n c : Nat) (os : List Int) (D : Int) (A' : Option Addr) (n' c' : Nat) (sq : List Int) (A'' : Option Addr) (n'' c'' : Nat) (pr : List Int)
    (h : Sl w w.heap.size A n c os) (h' : Sl w w.heap.size A' n' c' sq) (h'' : Sl w w.heap.size A'' n'' c'' pr) (hn : n ≤ 1048576) (hn' : n' ≤ 1048576) (hn'' : n'' ≤ 1048576) :
    Calls Try.prog 79 #[.slice A n c, .int .i64 D, .slice A' n' c', .slice A'' n'' c''] w (MkM w (gF (mfC os D sq pr) os) (gFI (mfC os D sq pr) D) (gF (mfC os D sq pr) (valsF os D sq pr)) (mfC os D sq pr)) := by
  obtain rfl := h.len
  obtain rfl := h'.len
  obtain rfl := h''.len
  cases hg : okG os with
  | false =>
    have hC := hide (show mfC os D sq pr = 2 by unfold mfC; rw [if_neg (by simp [frm, hg])])
    rw [hC.out, gF_n (by omega), gF_n (by omega), gFI_n (by omega)]
    go_enter Try.func79, Try.ntmps79
    go_wp2_with fail
    obtain ⟨W, hW⟩ : ∃ W, w.alloc (.cells #[.slice none 0 0, .int .i64 0, .slice none 0 0] 28) = W := ⟨_, rfl⟩
    have hbW : Below w.heap.size w W := by rw [← hW]; exact (by repeat (first | assumption | exact Below.refl _ _ | apply below_drewN | apply Below.drew | apply Below.alloc | apply Below.setCell | omega | (focus (simp; done)) | (focus (simp; omega))))
    have hszW : w.heap.size < W.heap.size := by rw [← hW]; simp
    have bR : Blk W w.heap.size 28 #[.slice none 0 0, .int .i64 0, .slice none 0 0] := by rw [← hW]; exact Blk.new _ _ _
    rw [hW]
    clear hW
    have hsl : ∀ {wd}, Below W.heap.size W wd → Sl wd wd.heap.size A os.length c os := fun q => ((h.below hbW).below (q.mono (Nat.le_of_lt hszW))).more (by have := q.size; omega)
    have hsl' : ∀ {wd}, Below W.heap.size W wd → Sl wd wd.heap.size A' sq.length c' sq := fun q => ((h'.below hbW).below (q.mono (Nat.le_of_lt hszW))).more (by have := q.size; omega)
    have hsl'' : ∀ {wd}, Below W.heap.size W wd → Sl wd wd.heap.size A'' pr.length c'' pr := fun q => ((h''.below hbW).below (q.mono (Nat.le_of_lt hszW))).more (by have := q.size; omega)
    have kk : Below W.heap.size W W := Below.refl _ _
    refine ((l10Orders_v false _ _ _ _ _ _ (hsl kk) hn hg).mono fun _ _ h => Qt.re h).mono ?_
    rintro e w2 ⟨rfl, hb2⟩
    replace kk := kk.trans (hb2.mono kk.size)
    clear hb2
    have hres := bR.all kk
    have r0 := hres.cell 0
    have r1 := hres.cell 1
    have r2 := hres.cell 2
    have f0 := hres.frozen 0
    have f1 := hres.frozen 1
    have f2 := hres.frozen 2
    go_wp2
    have hb3 := put3_blk (x := .slice none 0 0) (y := .int .i64 0) (z := .slice none 0 0) hres
    have q0 := hb3.cell 0
    have q1 := hb3.cell 1
    have q2 := hb3.cell 2
    unfold put3 at q0 q1 q2
    refine bodyPost_ret (v := .tuple #[.agg #[.slice none 0 0, .int .i64 0, .slice none 0 0], .int .i64 2]) (by simp [results, Try.results79, go_sem, q0, q1, q2]) rfl ?_
    exact mkM_of_no ⟨rfl, put3_below (hbW.trans (kk.mono (Nat.le_of_lt hszW))) (Nat.le_refl _)⟩
  | true =>
    cases ho : ordB D with
    | false =>
      have hC := hide (show mfC os D sq pr = 2 by unfold mfC; rw [if_neg (by simp [frm, ho])])
      rw [hC.out, gF_n (by omega), gF_n (by omega), gFI_n (by omega)]
      go_enter Try.func79, Try.ntmps79
      go_wp2_with fail
      obtain ⟨W, hW⟩ : ∃ W, w.alloc (.cells #[.slice none 0 0, .int .i64 0, .slice none 0 0] 28) = W := ⟨_, rfl⟩
      have hbW : Below w.heap.size w W := by rw [← hW]; exact (by repeat (first | assumption | exact Below.refl _ _ | apply below_drewN | apply Below.drew | apply Below.alloc | apply Below.setCell | omega | (focus (simp; done)) | (focus (simp; omega))))
      have hszW : w.heap.size < W.heap.size := by rw [← hW]; simp
      have bR : Blk W w.heap.size 28 #[.slice none 0 0, .int .i64 0, .slice none 0 0] := by rw [← hW]; exact Blk.new _ _ _
      rw [hW]
      clear hW
      have hsl : ∀ {wd}, Below W.heap.size W wd → Sl wd wd.heap.size A os.length c os := fun q => ((h.below hbW).below (q.mono (Nat.le_of_lt hszW))).more (by have := q.size; omega)
      have hsl' : ∀ {wd}, Below W.heap.size W wd → Sl wd wd.heap.size A' sq.length c' sq := fun q => ((h'.below hbW).below (q.mono (Nat.le_of_lt hszW))).more (by have := q.size; omega)
      have hsl'' : ∀ {wd}, Below W.heap.size W wd → Sl wd wd.heap.size A'' pr.length c'' pr := fun q => ((h''.below hbW).below (q.mono (Nat.le_of_lt hszW))).more (by have := q.size; omega)
      have kk : Below W.heap.size W W := Below.refl _ _
      refine ((l10Orders_v true _ _ _ _ _ _ (hsl kk) hn hg).mono fun _ _ h => Qt.re h).mono ?_
      rintro e w2 ⟨rfl, hb2⟩
      replace kk := kk.trans (hb2.mono kk.size)
      clear hb2
      go_wp2_with fail
      refine ((l01Divisor_v false _ _ ho).mono fun _ _ h => Qt.re h).mono ?_
      rintro e w2 ⟨rfl, hb2⟩
      replace kk := kk.trans (hb2.mono kk.size)
      clear hb2
      have hres := bR.all kk
      have r0 := hres.cell 0
      have r1 := hres.cell 1
      have r2 := hres.cell 2
      have f0 := hres.frozen 0
      have f1 := hres.frozen 1
      have f2 := hres.frozen 2
      go_wp2
      have hb3 := put3_blk (x := .slice none 0 0) (y := .int .i64 0) (z := .slice none 0 0) hres
      have q0 := hb3.cell 0
      have q1 := hb3.cell 1
      have q2 := hb3.cell 2
      unfold put3 at q0 q1 q2
      refine bodyPost_ret (v := .tuple #[.agg #[.slice none 0 0, .int .i64 0, .slice none 0 0], .int .i64 2]) (by simp [results, Try.results79, go_sem, q0, q1, q2]) rfl ?_
      exact mkM_of_no ⟨rfl, put3_below (hbW.trans (kk.mono (Nat.le_of_lt hszW))) (Nat.le_refl _)⟩
    | true =>
      have hG := okG_iff.1 hg
      have h4 := hG.l4
      obtain ⟨d1, d2⟩ := ordB_le ho
      obtain ⟨z1, z2, z3⟩ := tri_eq _ h4
      have s1 : IntKind.i64.wrap ((os.length : Int) - 1) = (os.length : Int) - 1 := wrap_in (by omega) (by omega)
      obtain ⟨Q, hQ⟩ : ∃ Q, (os.length : Int) * ((os.length : Int) - 1) = Q := ⟨_, rfl⟩
      rw [hQ] at z1 z2 z3
      have s2 : IntKind.i64.wrap ((os.length : Int) * ((os.length : Int) - 1)) = Q := by rw [hQ]; exact wrap_in (by omega) (by omega)
      obtain ⟨T, hT⟩ : ∃ T, tri os.length = T := ⟨_, rfl⟩
      have z5 := tri_le _ h4
      rw [hT] at z3 z5
      have z4 : IntKind.i64.wrap (T : Int) = T := wrap_in (by omega) (by omega)
      have HW := hide (show _ ∧ _ ∧ _ ∧ _ ∧ wrap64 (T : Int) = T from ⟨s1, s2, z3, z4, by rw [← wrap_eq]; exact z4⟩)
      have hTT := hide hT
      clear hQ hT s1 s2 z3 z4
      by_cases hq : sq.length = os.length
      case neg =>
        have u1 : ((sq.length : Int) != (os.length : Int)) = true := by rw [bne_iff_ne]; omega
        have hC := hide (show mfC os D sq pr = 2 by unfold mfC; rw [if_neg (by simp [frm, hq])])
        rw [hC.out, gF_n (by omega), gF_n (by omega), gFI_n (by omega)]
        clear hq
        go_enter Try.func79, Try.ntmps79
        go_wp2_with fail
        obtain ⟨W, hW⟩ : ∃ W, w.alloc (.cells #[.slice none 0 0, .int .i64 0, .slice none 0 0] 28) = W := ⟨_, rfl⟩
        have hbW : Below w.heap.size w W := by rw [← hW]; exact (by repeat (first | assumption | exact Below.refl _ _ | apply below_drewN | apply Below.drew | apply Below.alloc | apply Below.setCell | omega | (focus (simp; done)) | (focus (simp; omega))))
        have hszW : w.heap.size < W.heap.size := by rw [← hW]; simp
        have bR : Blk W w.heap.size 28 #[.slice none 0 0, .int .i64 0, .slice none 0 0] := by rw [← hW]; exact Blk.new _ _ _
        rw [hW]
        clear hW
        have hsl : ∀ {wd}, Below W.heap.size W wd → Sl wd wd.heap.size A os.length c os := fun q => ((h.below hbW).below (q.mono (Nat.le_of_lt hszW))).more (by have := q.size; omega)
        have hsl' : ∀ {wd}, Below W.heap.size W wd → Sl wd wd.heap.size A' sq.length c' sq := fun q => ((h'.below hbW).below (q.mono (Nat.le_of_lt hszW))).more (by have := q.size; omega)
        have hsl'' : ∀ {wd}, Below W.heap.size W wd → Sl wd wd.heap.size A'' pr.length c'' pr := fun q => ((h''.below hbW).below (q.mono (Nat.le_of_lt hszW))).more (by have := q.size; omega)
        have kk : Below W.heap.size W W := Below.refl _ _
        refine ((l10Orders_v true _ _ _ _ _ _ (hsl kk) hn hg).mono fun _ _ h => Qt.re h).mono ?_
        rintro e w2 ⟨rfl, hb2⟩
        replace kk := kk.trans (hb2.mono kk.size)
        clear hb2
        go_wp2_with fail
        obtain ⟨s1, s2, s3, s4, s5⟩ := HW.out
        refine ((l01Divisor_v true _ _ ho).mono fun _ _ h => Qt.re h).mono ?_
        rintro e w2 ⟨rfl, hb2⟩
        replace kk := kk.trans (hb2.mono kk.size)
        clear hb2
        have hres := bR.all kk
        have r0 := hres.cell 0
        have r1 := hres.cell 1
        have r2 := hres.cell 2
        have f0 := hres.frozen 0
        have f1 := hres.frozen 1
        have f2 := hres.frozen 2
        go_wp2
        have hb3 := put3_blk (x := .slice none 0 0) (y := .int .i64 0) (z := .slice none 0 0) hres
        have q0 := hb3.cell 0
        have q1 := hb3.cell 1
        have q2 := hb3.cell 2
        unfold put3 at q0 q1 q2
        refine bodyPost_ret (v := .tuple #[.agg #[.slice none 0 0, .int .i64 0, .slice none 0 0], .int .i64 2]) (by simp [results, Try.results79, go_sem, q0, q1, q2]) rfl ?_
        exact mkM_of_no ⟨rfl, put3_below (hbW.trans (kk.mono (Nat.le_of_lt hszW))) (Nat.le_refl _)⟩
      have u1 : ((sq.length : Int) != (os.length : Int)) = false := by rw [bne_eq_false_iff_eq]; omega
      have HQ := hide hq
      by_cases hp : pr.length = T
      case neg =>
        have u2 : ((pr.length : Int) != (T : Int)) = true := by rw [bne_iff_ne]; omega
        have hpp : ¬ pr.length = tri os.length := by rw [hTT.out]; exact hp
        have hC := hide (show mfC os D sq pr = 2 by unfold mfC; rw [if_neg (by simp [frm, hpp])])
        rw [hC.out, gF_n (by omega), gF_n (by omega), gFI_n (by omega)]
        clear hpp
        clear hq
        go_enter Try.func79, Try.ntmps79
        go_wp2_with fail
        obtain ⟨W, hW⟩ : ∃ W, w.alloc (.cells #[.slice none 0 0, .int .i64 0, .slice none 0 0] 28) = W := ⟨_, rfl⟩
        have hbW : Below w.heap.size w W := by rw [← hW]; exact (by repeat (first | assumption | exact Below.refl _ _ | apply below_drewN | apply Below.drew | apply Below.alloc | apply Below.setCell | omega | (focus (simp; done)) | (focus (simp; omega))))
        have hszW : w.heap.size < W.heap.size := by rw [← hW]; simp
        have bR : Blk W w.heap.size 28 #[.slice none 0 0, .int .i64 0, .slice none 0 0] := by rw [← hW]; exact Blk.new _ _ _
        rw [hW]
        clear hW
        have hsl : ∀ {wd}, Below W.heap.size W wd → Sl wd wd.heap.size A os.length c os := fun q => ((h.below hbW).below (q.mono (Nat.le_of_lt hszW))).more (by have := q.size; omega)
        have hsl' : ∀ {wd}, Below W.heap.size W wd → Sl wd wd.heap.size A' sq.length c' sq := fun q => ((h'.below hbW).below (q.mono (Nat.le_of_lt hszW))).more (by have := q.size; omega)
        have hsl'' : ∀ {wd}, Below W.heap.size W wd → Sl wd wd.heap.size A'' pr.length c'' pr := fun q => ((h''.below hbW).below (q.mono (Nat.le_of_lt hszW))).more (by have := q.size; omega)
        have kk : Below W.heap.size W W := Below.refl _ _
        refine ((l10Orders_v true _ _ _ _ _ _ (hsl kk) hn hg).mono fun _ _ h => Qt.re h).mono ?_
        rintro e w2 ⟨rfl, hb2⟩
        replace kk := kk.trans (hb2.mono kk.size)
        clear hb2
        go_wp2_with fail
        obtain ⟨s1, s2, s3, s4, s5⟩ := HW.out
        refine ((l01Divisor_v true _ _ ho).mono fun _ _ h => Qt.re h).mono ?_
        rintro e w2 ⟨rfl, hb2⟩
        replace kk := kk.trans (hb2.mono kk.size)
        clear hb2
        have hres := bR.all kk
        have r0 := hres.cell 0
        have r1 := hres.cell 1
        have r2 := hres.cell 2
        have f0 := hres.frozen 0
        have f1 := hres.frozen 1
        have f2 := hres.frozen 2
        go_wp2
        have hb3 := put3_blk (x := .slice none 0 0) (y := .int .i64 0) (z := .slice none 0 0) hres
        have q0 := hb3.cell 0
        have q1 := hb3.cell 1
        have q2 := hb3.cell 2
        unfold put3 at q0 q1 q2
        refine bodyPost_ret (v := .tuple #[.agg #[.slice none 0 0, .int .i64 0, .slice none 0 0], .int .i64 2]) (by simp [results, Try.results79, go_sem, q0, q1, q2]) rfl ?_
        exact mkM_of_no ⟨rfl, put3_below (hbW.trans (kk.mono (Nat.le_of_lt hszW))) (Nat.le_refl _)⟩
      have u2 : ((pr.length : Int) != (T : Int)) = false := by rw [bne_eq_false_iff_eq]; omega
      have HP := hide (show pr.length = tri os.length by rw [hTT.out]; exact hp)
      clear hq hp
      go_enter Try.func79, Try.ntmps79
      go_wp2_with fail
      obtain ⟨W, hW⟩ : ∃ W, w.alloc (.cells #[.slice none 0 0, .int .i64 0, .slice none 0 0] 28) = W := ⟨_, rfl⟩
      have hbW : Below w.heap.size w W := by rw [← hW]; exact (by repeat (first | assumption | exact Below.refl _ _ | apply below_drewN | apply Below.drew | apply Below.alloc | apply Below.setCell | omega | (focus (simp; done)) | (focus (simp; omega))))
      have hszW : w.heap.size < W.heap.size := by rw [← hW]; simp
      have bR : Blk W w.heap.size 28 #[.slice none 0 0, .int .i64 0, .slice none 0 0] := by rw [← hW]; exact Blk.new _ _ _
      rw [hW]
      clear hW
      have hsl : ∀ {wd}, Below W.heap.size W wd → Sl wd wd.heap.size A os.length c os := fun q => ((h.below hbW).below (q.mono (Nat.le_of_lt hszW))).more (by have := q.size; omega)
      have hsl' : ∀ {wd}, Below W.heap.size W wd → Sl wd wd.heap.size A' sq.length c' sq := fun q => ((h'.below hbW).below (q.mono (Nat.le_of_lt hszW))).more (by have := q.size; omega)
      have hsl'' : ∀ {wd}, Below W.heap.size W wd → Sl wd wd.heap.size A'' pr.length c'' pr := fun q => ((h''.below hbW).below (q.mono (Nat.le_of_lt hszW))).more (by have := q.size; omega)
      have kk : Below W.heap.size W W := Below.refl _ _
      refine ((l10Orders_v true _ _ _ _ _ _ (hsl kk) hn hg).mono fun _ _ h => Qt.re h).mono ?_
      rintro e w2 ⟨rfl, hb2⟩
      replace kk := kk.trans (hb2.mono kk.size)
      clear hb2
      go_wp2_with fail
      obtain ⟨s1, s2, s3, s4, s5⟩ := HW.out
      refine ((l01Divisor_v true _ _ ho).mono fun _ _ h => Qt.re h).mono ?_
      rintro e w2 ⟨rfl, hb2⟩
      replace kk := kk.trans (hb2.mono kk.size)
      clear hb2
      go_wp2_with fail
      clear s1 s2 s3 s4 s5 u1 u2
      have v1 : IntKind.i64.wrap (D - 1) = D - 1 := wrap_in (by omega) (by omega)
      go_loopw [11] (fun i wr => ∃ k : Nat, k ≤ sq.length ∧ i = .int .i64 k ∧ (∀ j, j < k → inB (gi sq j) 0 (D - 1) = true) ∧ Below W.heap.size W wr) (fun i _ => sq.length - (intOf i).toNat)
      case atStart => exact ⟨0, by omega, rfl, fun j hj => absurd hj (by omega), kk⟩
      case round =>
        clear kk
        obtain ⟨k, hk, rfl, hpre, kk⟩ := hrel
        have hP := hide hpre
        clear hpre
        by_cases hlt : k < sq.length
        · obtain ⟨b, off, rfl, hb, hc⟩ := (hsl' kk).at_ (by omega)
          have c1 := hc k hlt
          clear hc
          have q1 : (k : Int) < (sq.length : Int) := by omega
          cases hv : inB (gi sq k) 0 (D - 1) with
          | false =>
            have hf := allIn_f hlt hv
            have hC := hide (show mfC os D sq pr = 2 by unfold mfC; rw [if_neg (by simp [frm, hf])])
            rw [hC.out, gF_n (by omega), gF_n (by omega), gFI_n (by omega)]
            clear hf
            go_wp2_with fail
            refine ((l01In_v false _ _ _ _ hv).mono fun _ _ h => Qt.re h).mono ?_
            rintro e w2 ⟨rfl, hb2⟩
            replace kk := kk.trans (hb2.mono kk.size)
            clear hb2
            have hres := bR.all kk
            have r0 := hres.cell 0
            have r1 := hres.cell 1
            have r2 := hres.cell 2
            have f0 := hres.frozen 0
            have f1 := hres.frozen 1
            have f2 := hres.frozen 2
            go_wp2
            have hb3 := put3_blk (x := .slice none 0 0) (y := .int .i64 0) (z := .slice none 0 0) hres
            have q0 := hb3.cell 0
            have q1 := hb3.cell 1
            have q2 := hb3.cell 2
            unfold put3 at q0 q1 q2
            refine bodyPost_ret (v := .tuple #[.agg #[.slice none 0 0, .int .i64 0, .slice none 0 0], .int .i64 2]) (by simp [results, Try.results79, go_sem, q0, q1, q2]) rfl ?_
            exact mkM_of_no ⟨rfl, put3_below (hbW.trans (kk.mono (Nat.le_of_lt hszW))) (Nat.le_refl _)⟩
          | true =>
            have hS := hide (show ∀ j, j < k + 1 → inB (gi sq j) 0 (D - 1) = true from fun j hj => by rcases Nat.lt_succ_iff_lt_or_eq.1 hj with h | rfl; exact hP.out j h; exact hv)
            have hv' := hide hv
            clear hv
            go_wp2_with fail
            refine ((l01In_v true _ _ _ _ hv'.out).mono fun _ _ h => Qt.re h).mono ?_
            rintro e w2 ⟨rfl, hb2⟩
            replace kk := kk.trans (hb2.mono kk.size)
            clear hb2
            clear c1
            go_wp2_with fail
            go_roundw
            case rel => exact ⟨k + 1, by omega, by go_num, hS.out, kk⟩
            case measure => simp [intOf] <;> omega
        · obtain rfl : k = sq.length := by omega
          have h5 := hide (allIn_t fun j hj => hP.out j hj)
          clear hP
          go_wp2_with fail
          go_loopw [12] (fun i wr => ∃ k : Nat, k ≤ pr.length ∧ i = .int .i64 k ∧ (∀ j, j < k → inB (gi pr j) 0 (D - 1) = true) ∧ Below W.heap.size W wr) (fun i _ => pr.length - (intOf i).toNat)
          case atStart => exact ⟨0, by omega, rfl, fun j hj => absurd hj (by omega), kk⟩
          case round =>
            clear kk
            obtain ⟨k, hk, rfl, hpre, kk⟩ := hrel
            have hP := hide hpre
            clear hpre
            by_cases hlt : k < pr.length
            · obtain ⟨b, off, rfl, hb, hc⟩ := (hsl'' kk).at_ (by omega)
              have c1 := hc k hlt
              clear hc
              have q1 : (k : Int) < (pr.length : Int) := by omega
              cases hv : inB (gi pr k) 0 (D - 1) with
              | false =>
                have hf := allIn_f hlt hv
                have hC := hide (show mfC os D sq pr = 2 by unfold mfC; rw [if_neg (by simp [frm, hf])])
                rw [hC.out, gF_n (by omega), gF_n (by omega), gFI_n (by omega)]
                clear hf
                go_wp2_with fail
                refine ((l01In_v false _ _ _ _ hv).mono fun _ _ h => Qt.re h).mono ?_
                rintro e w2 ⟨rfl, hb2⟩
                replace kk := kk.trans (hb2.mono kk.size)
                clear hb2
                have hres := bR.all kk
                have r0 := hres.cell 0
                have r1 := hres.cell 1
                have r2 := hres.cell 2
                have f0 := hres.frozen 0
                have f1 := hres.frozen 1
                have f2 := hres.frozen 2
                go_wp2
                have hb3 := put3_blk (x := .slice none 0 0) (y := .int .i64 0) (z := .slice none 0 0) hres
                have q0 := hb3.cell 0
                have q1 := hb3.cell 1
                have q2 := hb3.cell 2
                unfold put3 at q0 q1 q2
                refine bodyPost_ret (v := .tuple #[.agg #[.slice none 0 0, .int .i64 0, .slice none 0 0], .int .i64 2]) (by simp [results, Try.results79, go_sem, q0, q1, q2]) rfl ?_
                exact mkM_of_no ⟨rfl, put3_below (hbW.trans (kk.mono (Nat.le_of_lt hszW))) (Nat.le_refl _)⟩
              | true =>
                have hS := hide (show ∀ j, j < k + 1 → inB (gi pr j) 0 (D - 1) = true from fun j hj => by rcases Nat.lt_succ_iff_lt_or_eq.1 hj with h | rfl; exact hP.out j h; exact hv)
                have hv' := hide hv
                clear hv
                go_wp2_with fail
                refine ((l01In_v true _ _ _ _ hv'.out).mono fun _ _ h => Qt.re h).mono ?_
                rintro e w2 ⟨rfl, hb2⟩
                replace kk := kk.trans (hb2.mono kk.size)
                clear hb2
                clear c1
                go_wp2_with fail
                go_roundw
                case rel => exact ⟨k + 1, by omega, by go_num, hS.out, kk⟩
                case measure => simp [intOf] <;> omega
            · obtain rfl : k = pr.length := by omega
              have h6 := hide (allIn_t fun j hj => hP.out j hj)
              clear hP
              have hp16 := hG.p16
              have hge := hG.ge
              obtain ⟨N, hN⟩ : ∃ N : Nat, prodL os = N := ⟨(prodL os).toNat, by omega⟩
              obtain ⟨xs, hxs⟩ : ∃ xs, fromL os D sq pr N = xs := ⟨_, rfl⟩
              have hX := hide hxs
              have hVF := hide (show valsF os D sq pr = xs by unfold valsF; rw [hN]; exact hxs)
              have HC := hide (show mfC os D sq pr = if isM os D xs = true then 0 else 5 by unfold mfC; rw [if_pos (frm_t hg ho HQ.out HP.out h5.out h6.out), hVF.out])
              have hxr : ∀ x ∈ xs, 0 ≤ x ∧ x < D := by rw [← hxs]; exact fromL_rng d1
              have hxl := hide (show xs.length ≤ 1048576 by rw [← hxs, fromL_len]; omega)
              have hvr := hide (show ∀ x ∈ xs, i64ok x from fun x hx => by have := hxr x hx; exact ⟨by omega, by omega⟩)
              clear hxs hxr
              go_wp2_with fail
              refine (l10From_any _ _ _ _ _ _ _ _ _ _ _ _ _ _ (hsl kk) (hsl' kk) (hsl'' kk) hG d1 d2 HQ.out HP.out (fun v hv => by have := allIn_mem h5.out v hv; omega) (fun v hv => by have := allIn_mem h6.out v hv; omega) N hN).mono ?_
              rw [hX.out]
              rintro e w3 ⟨v1', v2', rfl, ho1, ho2, hap, hb3⟩
              obtain ⟨Av, cv, rfl⟩ := ho1.val
              obtain ⟨A2, c2, rfl⟩ := ho2.val
              replace ho1 := ho1.less (show W.heap.size ≤ _ from kk.size)
              replace ho2 := ho2.less (show W.heap.size ≤ _ from kk.size)
              replace kk := kk.trans (hb3.mono kk.size)
              clear hb3
              obtain ⟨w4, g, hg4, hw4, hB4, hsub, bO, hgB⟩ := be_alloc kk 28 #[.slice none 0 0, .int .i64 0, .slice none 0 0]
              replace ho1 := ho1.below hsub
              replace ho2 := ho2.below hsub
              have hI : MetIn W W.heap.size w.heap.size g (.slice Av os.length cv) os D (.slice A2 xs.length c2) xs (put3 w4 g (.slice Av os.length cv) (.int .i64 D) (.slice A2 xs.length c2)) := ⟨put3_far (bR.all hB4) (by omega), put3_own bO (by decide) ho1, put3_blk bO, put3_own bO (by decide) ho2, hap, put3_below hB4 hgB⟩
              have r0 := bO.cell 0
              have r1 := bO.cell 1
              have r2 := bO.cell 2
              have f0 := bO.frozen 0
              have f1 := bO.frozen 1
              have f2 := bO.frozen 2
              clear hB4 hsub bO ho1 ho2 hap
              obtain ⟨W3, hW3⟩ : ∃ W3, put3 w4 g (.slice Av os.length cv) (.int .i64 D) (.slice A2 xs.length c2) = W3 := ⟨_, rfl⟩
              unfold put3 at hW3 hI
              rw [hW3] at hI
              have hwz := hI.below.size
              obtain ⟨o0, o1, o2⟩ := hI.reads
              obtain ⟨_, _, he1, gs1⟩ := hI.ords.sl h.rng
              cases he1
              obtain ⟨_, _, he2, gs2⟩ := hI.vals.sl hvr.out
              cases he2
              go_wp2_with fail
              clear o0 o1 o2
              cases hm : isM os D xs with
              | false =>
                refine (l10Is_v false _ _ _ _ _ _ _ _ _ _ gs1 gs2 (by omega) hxl.out hm).mono ?_
                rintro e w8 ⟨rfl, hb8⟩
                have hJ := hI.all hb8 hwz
                have hres := hJ.res
                have r0 := hres.cell 0
                have r1 := hres.cell 1
                have r2 := hres.cell 2
                have f0 := hres.frozen 0
                have f1 := hres.frozen 1
                have f2 := hres.frozen 2
                go_wp2
                have hb3 := put3_blk (x := .slice none 0 0) (y := .int .i64 0) (z := .slice none 0 0) hres
                have q0 := hb3.cell 0
                have q1 := hb3.cell 1
                have q2 := hb3.cell 2
                unfold put3 at q0 q1 q2
                refine bodyPost_ret (v := .tuple #[.agg #[.slice none 0 0, .int .i64 0, .slice none 0 0], .int .i64 5]) (by simp [results, Try.results79, go_sem, q0, q1, q2]) rfl ?_
                rw [hVF.out, HC.out, hm, if_neg Bool.false_ne_true, gF_n (by omega), gF_n (by omega), gFI_n (by omega)]
                exact mkM_of_no ⟨rfl, put3_below (hbW.trans (hJ.below.mono (Nat.le_of_lt hszW))) (Nat.le_refl _)⟩
              | true =>
                refine (l10Is_v true _ _ _ _ _ _ _ _ _ _ gs1 gs2 (by omega) hxl.out hm).mono ?_
                rintro e w8 ⟨rfl, hb8⟩
                have hJ := hI.all hb8 hwz
                obtain ⟨o0, o1, o2⟩ := hJ.reads
                have hres := hJ.res
                have r0 := hres.cell 0
                have r1 := hres.cell 1
                have r2 := hres.cell 2
                have f0 := hres.frozen 0
                have f1 := hres.frozen 1
                have f2 := hres.frozen 2
                go_wp2
                have hb3 := put3_blk (x := .slice Av os.length cv) (y := .int .i64 D) (z := .slice A2 xs.length c2) hres
                have q0 := hb3.cell 0
                have q1 := hb3.cell 1
                have q2 := hb3.cell 2
                unfold put3 at q0 q1 q2
                refine bodyPost_ret (v := .tuple #[.agg #[.slice Av os.length cv, .int .i64 D, .slice A2 xs.length c2], .int .i64 0]) (by simp [results, Try.results79, go_sem, q0, q1, q2]) rfl ?_
                rw [hVF.out, HC.out, hm, if_pos rfl, gF_0, gF_0, gFI_0]
                exact (hJ.weak hbW (Nat.le_of_lt hszW)).done (Nat.le_refl _)
end Go.Proofs.Ytneflhachjlmkaa
