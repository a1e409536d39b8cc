/- The walks of IsAnisotropic, of both sides. -/
import Derived.Test.YtpafkgfjbdhpkaaE1
import Derived.WalkLawsBesides
namespace Go.Proofs.Ytpafkgfjbdhpkaa
open Go Go.RowKit Grp
set_option linter.unusedSimpArgs false
set_option linter.unusedVariables false

/-- It returned a Bool and a code; what lay before lies as it lay. -/
def ReB (w : World) (a : Bool) (b : Int) (e : Ending) (w' : World) : Prop := e = .returned (.tuple #[.bool a, .int .i64 b]) ∧ Below w.heap.size w w'
/-- No value but the first is 0. -/
def aniB (vs : List Int) : Bool := (vs.drop 1).all fun v => v != 0
noncomputable def codeM (os : List Int) (D : Int) (vs : List Int) : Int := if isM os D vs = true then 0 else 1
theorem Sl.tail {w : World} {B : Nat} {b off n c : Nat} {xs : List Int} (h : Sl w B (some ⟨b, off, none⟩) n c xs) (hn : 1 ≤ n) : Sl w B (some ⟨b, off + 1, none⟩) (n - 1) (c - 1) (xs.drop 1) := by
  refine ⟨by rw [List.length_drop, h.len], by have := h.cap; omega, fun x hx => h.rng x (List.mem_of_mem_drop hx), fun hp => ?_⟩
  obtain ⟨b', off', e, hb, hc⟩ := h.at_ (by omega)
  cases e
  refine ⟨b, off + 1, rfl, hb, fun k hk => ?_⟩
  have := hc (k + 1) (by omega)
  rw [show off + 1 + k = off + (k + 1) by omega, this]
  congr 2
  unfold gi
  rw [List.getD_eq_getElem?_getD, List.getD_eq_getElem?_getD, List.getElem?_drop, Nat.add_comm 1 k]
theorem index_any (w : World) (B : Nat) (A : Option Addr) (n c : Nat) (xs : List Int) (v : Int) (h : Sl w B A n c xs) (hn : n ≤ 1048576) :
    Calls Try.prog 87 #[.slice A n c, .int .i64 v] w (fun e w' => ∃ r : Int, e = .returned (.int .i64 r) ∧ decide (0 ≤ r) = xs.any (fun x => x == v) ∧ Dr w w') := by
  obtain rfl := h.len
  go_enter Try.func87, Try.ntmps87
  go_wp2_with fail
  go_loopw [8] (fun i wr => ∃ k : Nat, k ≤ xs.length ∧ i = .int .i64 k ∧ (∀ j, j < k → gi xs j ≠ v) ∧ wr = w) (fun i _ => xs.length - (intOf i).toNat)
  case atStart => exact ⟨0, by omega, rfl, fun j hj => absurd hj (by omega), rfl⟩
  case round =>
    obtain ⟨k, hk, rfl, hpre, rfl⟩ := hrel
    have hP := hide hpre
    clear hpre
    by_cases hlt : k < xs.length
    · obtain ⟨b, off, rfl, hb, hc⟩ := h.at_ (by omega)
      have c1 := hc k hlt
      clear hc
      by_cases hv : gi xs k = v
      · have hvb : (gi xs k == v) = true := by simpa using hv
        have hT := hide (show xs.any (fun x => x == v) = true from List.any_eq_true.2 ⟨_, gi_mem hlt, hvb⟩)
        have hv' := hide hv
        clear hv
        go_wp2_with fail
        go_ret
        exact ⟨k, rfl, by rw [hT.out]; simp, Dr.refl _⟩
      · have hvb : (gi xs k == v) = false := by simpa using hv
        have hv' := hide hv
        clear hv
        go_wp2_with fail
        go_roundw
        case rel => exact ⟨k + 1, by omega, by go_num, fun j hj => by rcases Nat.lt_succ_iff_lt_or_eq.1 hj with h | rfl; exact hP.out j h; exact hv'.out, trivial⟩
        case measure => simp [intOf] <;> omega
    · obtain rfl : k = xs.length := by omega
      have hF := hide (show xs.any (fun x => x == v) = false from by
        refine Bool.eq_false_iff.2 fun ha => ?_
        obtain ⟨x, hx, he⟩ := List.any_eq_true.1 ha
        obtain ⟨j, hj, rfl⟩ := List.getElem_of_mem hx
        refine hP.out j hj ?_
        unfold gi
        rw [List.getD_eq_getElem?_getD, List.getElem?_eq_getElem hj]
        simpa using he)
      go_wp2
      go_ret
      exact ⟨-1, rfl, by rw [hF.out]; rfl, Dr.refl _⟩
theorem contains_any (w : World) (B : Nat) (A : Option Addr) (n c : Nat) (xs : List Int) (v : Int) (h : Sl w B A n c xs) (hn : n ≤ 1048576) :
    Calls Try.prog 56 #[.slice A n c, .int .i64 v] w (Qt w (.bool (xs.any (fun x => x == v)))) := by
  go_enter Try.func56, Try.ntmps56
  go_wp2_with fail
  refine (index_any _ _ _ _ _ _ _ h hn).mono ?_
  rintro e w' ⟨r, rfl, hr, dm, rfl⟩
  have hR := hide hr
  clear hr
  go_wp2
  go_ret
  exact Qt.mk' _ rfl (bool_eq hR.out)

theorem any_all (vs : List Int) : ((vs.drop 1).any fun x => x == 0) = !aniB vs := by
  unfold aniB
  rw [List.not_all_eq_any_not]
  congr 1
  funext x
  simp [bne]
set_option maxHeartbeats 1000000 in
theorem impl_Ani_any (w : World) (A : Option Addr) (n c : Nat) (os : List Int) (D : Int) (A' : Option Addr) (n' c' : Nat) (vs : List Int) (h : Sl w w.heap.size A n c os) (h' : Sl w w.heap.size A' n' c' vs) (hn : n ≤ 1048576) (hn' : n' ≤ 1048576) :
    Calls Try.prog 21 #[.agg #[.slice A n c, .int .i64 D, .slice A' n' c']] w (ReB w (isM os D vs && aniB vs) (codeM os D vs)) := by
  obtain rfl := h'.len
  cases hm : isM os D vs with
  | false =>
    have hC := hide (show codeM os D vs = 1 by unfold codeM; rw [hm]; rfl)
    go_enter Try.func21, Try.ntmps21
    go_wp2_with fail
    obtain ⟨W, hW⟩ : ∃ W, w.alloc (.cells #[.slice A n c, .int .i64 D, .slice A' vs.length c'] 27) = W := ⟨_, rfl⟩
    have hbW : Below w.heap.size w W := by rw [← hW]; exact (by repeat (first | assumption | exact Below.refl _ _ | apply below_drewN | apply Below.drew | apply Below.alloc | apply Below.setCell | omega | (focus (simp; done)) | (focus (simp; omega))))
    have hszW : w.heap.size < W.heap.size := by rw [← hW]; simp
    have q0 : W.cell? ⟨w.heap.size, 0, none⟩ = some (.slice A n c) := by rw [← hW]; exact (Blk.new _ _ _).cell 0
    have q1 : W.cell? ⟨w.heap.size, 1, none⟩ = some (.int .i64 D) := by rw [← hW]; exact (Blk.new _ _ _).cell 1
    have q2 : W.cell? ⟨w.heap.size, 2, none⟩ = some (.slice A' vs.length c') := by rw [← hW]; exact (Blk.new _ _ _).cell 2
    rw [hW]
    clear hW
    have hs := (h.below hbW).more (Nat.le_of_lt hszW)
    have hs' := (h'.below hbW).more (Nat.le_of_lt hszW)
    go_wp2_with fail
    refine (implIs_v false _ _ _ _ _ _ _ _ _ _ hs hs' hn hn' hm).mono ?_
    rintro e w2 ⟨rfl, hb2⟩
    go_wp2_with fail
    refine bodyPost_ret (v := .tuple #[.bool false, .int .i64 1]) (by simp [results, Try.results21, go_sem]) rfl ?_
    exact ⟨by rw [hC.out]; rfl, hbW.trans (hb2.mono (Nat.le_of_lt hszW))⟩
  | true =>
    have hM := isM_iff.1 hm
    have hC := hide (show codeM os D vs = 0 by unfold codeM; rw [hm]; rfl)
    have hpos : 1 ≤ vs.length := by have := hM.ok.len; have := hM.ok.g.ge; omega
    have hE := hide (any_all vs)
    obtain ⟨b, off, rfl, hb, _⟩ := h'.at_ (by omega)
    have hcap := h'.cap
    go_enter Try.func21, Try.ntmps21
    go_wp2_with fail
    obtain ⟨W, hW⟩ : ∃ W, w.alloc (.cells #[.slice A n c, .int .i64 D, .slice (some ⟨b, off, none⟩) vs.length c'] 27) = W := ⟨_, rfl⟩
    have hbW : Below w.heap.size w W := by rw [← hW]; exact (by repeat (first | assumption | exact Below.refl _ _ | apply below_drewN | apply Below.drew | apply Below.alloc | apply Below.setCell | omega | (focus (simp; done)) | (focus (simp; omega))))
    have hszW : w.heap.size < W.heap.size := by rw [← hW]; simp
    have q0 : W.cell? ⟨w.heap.size, 0, none⟩ = some (.slice A n c) := by rw [← hW]; exact (Blk.new _ _ _).cell 0
    have q1 : W.cell? ⟨w.heap.size, 1, none⟩ = some (.int .i64 D) := by rw [← hW]; exact (Blk.new _ _ _).cell 1
    have q2 : W.cell? ⟨w.heap.size, 2, none⟩ = some (.slice (some ⟨b, off, none⟩) vs.length c') := by rw [← hW]; exact (Blk.new _ _ _).cell 2
    rw [hW]
    clear hW
    have hs := (h.below hbW).more (Nat.le_of_lt hszW)
    have hs' := (h'.below hbW).more (Nat.le_of_lt hszW)
    go_wp2_with fail
    refine (implIs_v true _ _ _ _ _ _ _ _ _ _ hs hs' hn hn' hm).mono ?_
    rintro e w2 ⟨rfl, hb2⟩
    have r0 := (hb2.cell (p := ⟨w.heap.size, 0, none⟩) hszW).trans q0
    have r1 := (hb2.cell (p := ⟨w.heap.size, 1, none⟩) hszW).trans q1
    have r2 := (hb2.cell (p := ⟨w.heap.size, 2, none⟩) hszW).trans q2
    have i1 : (1 : Int) ≤ (vs.length : Int) := by omega
    have hlen2 : 2 ≤ vs.length := by have := hM.ok.len; have := hM.ok.g.ge; omega
    have i2 : ¬ c' = 1 := by omega
    have i3 : 1 < c' := by omega
    go_wp2_with fail
    refine (contains_any _ _ _ _ _ _ _ ((hs'.below hb2).tail hpos) (by omega)).mono ?_
    rintro e w3 ⟨rfl, dm, rfl⟩
    rw [hE.out]
    go_wp2_with fail
    refine bodyPost_ret (v := .tuple #[.bool (aniB vs), .int .i64 0]) (by simp [results, Try.results21, go_sem]) rfl ?_
    exact ⟨by rw [hC.out]; rfl, below_drewN (hbW.trans (hb2.mono (Nat.le_of_lt hszW))) _⟩
theorem gi_drop1 {vs : List Int} (j : Nat) : gi (vs.drop 1) j = gi vs (j + 1) := by
  unfold gi; rw [List.getD_eq_getElem?_getD, List.getD_eq_getElem?_getD, List.getElem?_drop, Nat.add_comm 1 j]
theorem aniB_f {vs : List Int} {k : Nat} (h1 : 1 ≤ k) (hk : k < vs.length) (h : gi vs k = 0) : aniB vs = false := by
  refine Bool.eq_false_iff.2 fun ha => ?_
  have hm : gi (vs.drop 1) (k - 1) ∈ vs.drop 1 := gi_mem (by rw [List.length_drop]; omega)
  have := List.all_eq_true.1 ha _ hm
  rw [gi_drop1, show k - 1 + 1 = k by omega, h] at this
  cases this
theorem aniB_t {vs : List Int} (h : ∀ j, 1 ≤ j → j < vs.length → gi vs j ≠ 0) : aniB vs = true := by
  refine List.all_eq_true.2 fun x hx => ?_
  obtain ⟨j, hj, rfl⟩ := List.getElem_of_mem hx
  rw [List.length_drop] at hj
  have := h (j + 1) (by omega) (by omega)
  rw [← gi_drop1] at this
  unfold gi at this
  rw [List.getD_eq_getElem?_getD, List.getElem?_eq_getElem (by rw [List.length_drop]; omega)] at this
  simpa using this
set_option maxHeartbeats 1000000 in
theorem spec_Ani_any (w : World) (A : Option Addr) (n c : Nat) (os : List Int) (D : Int) (A' : Option Addr) (n' c' : Nat) (vs : List Int) (h : Sl w w.heap.size A n c os) (h' : Sl w w.heap.size A' n' c' vs) (hn : n ≤ 1048576) (hn' : n' ≤ 1048576) :
    Calls Try.prog 20 #[.agg #[.slice A n c, .int .i64 D, .slice A' n' c']] w (ReB w (isM os D vs && aniB vs) (codeM os D vs)) := by
  obtain rfl := h'.len
  cases hm : isM os D vs with
  | false =>
    have hC := hide (show codeM os D vs = 1 by unfold codeM; rw [hm]; rfl)
    go_enter Try.func20, Try.ntmps20
    go_wp2_with fail
    obtain ⟨W, hW⟩ : ∃ W, w.alloc (.cells #[.slice A n c, .int .i64 D, .slice A' vs.length c'] 27) = W := ⟨_, rfl⟩
    have hbW : Below w.heap.size w W := by rw [← hW]; exact (by repeat (first | assumption | exact Below.refl _ _ | apply below_drewN | apply Below.drew | apply Below.alloc | apply Below.setCell | omega | (focus (simp; done)) | (focus (simp; omega))))
    have hszW : w.heap.size < W.heap.size := by rw [← hW]; simp
    have q0 : W.cell? ⟨w.heap.size, 0, none⟩ = some (.slice A n c) := by rw [← hW]; exact (Blk.new _ _ _).cell 0
    have q1 : W.cell? ⟨w.heap.size, 1, none⟩ = some (.int .i64 D) := by rw [← hW]; exact (Blk.new _ _ _).cell 1
    have q2 : W.cell? ⟨w.heap.size, 2, none⟩ = some (.slice A' vs.length c') := by rw [← hW]; exact (Blk.new _ _ _).cell 2
    rw [hW]
    clear hW
    have hs := (h.below hbW).more (Nat.le_of_lt hszW)
    have hs' := (h'.below hbW).more (Nat.le_of_lt hszW)
    go_wp2_with fail
    refine (l10Is_v false _ _ _ _ _ _ _ _ _ _ hs hs' hn hn' hm).mono ?_
    rintro e w2 ⟨rfl, hb2⟩
    go_wp2_with fail
    refine bodyPost_ret (v := .tuple #[.bool false, .int .i64 1]) (by simp [results, Try.results20, go_sem]) rfl ?_
    exact ⟨by rw [hC.out]; rfl, hbW.trans (hb2.mono (Nat.le_of_lt hszW))⟩
  | true =>
    have hM := isM_iff.1 hm
    have hC := hide (show codeM os D vs = 0 by unfold codeM; rw [hm]; rfl)
    have hpos : 1 ≤ vs.length := by have := hM.ok.len; have := hM.ok.g.ge; omega
    obtain ⟨b, off, rfl, hb, hc⟩ := h'.at_ (by omega)
    have hcH := hide hc
    clear hc
    go_enter Try.func20, Try.ntmps20
    go_wp2_with fail
    obtain ⟨W, hW⟩ : ∃ W, w.alloc (.cells #[.slice A n c, .int .i64 D, .slice (some ⟨b, off, none⟩) vs.length c'] 27) = W := ⟨_, rfl⟩
    have hbW : Below w.heap.size w W := by rw [← hW]; exact (by repeat (first | assumption | exact Below.refl _ _ | apply below_drewN | apply Below.drew | apply Below.alloc | apply Below.setCell | omega | (focus (simp; done)) | (focus (simp; omega))))
    have hszW : w.heap.size < W.heap.size := by rw [← hW]; simp
    have q0 : W.cell? ⟨w.heap.size, 0, none⟩ = some (.slice A n c) := by rw [← hW]; exact (Blk.new _ _ _).cell 0
    have q1 : W.cell? ⟨w.heap.size, 1, none⟩ = some (.int .i64 D) := by rw [← hW]; exact (Blk.new _ _ _).cell 1
    have q2 : W.cell? ⟨w.heap.size, 2, none⟩ = some (.slice (some ⟨b, off, none⟩) vs.length c') := by rw [← hW]; exact (Blk.new _ _ _).cell 2
    rw [hW]
    clear hW
    have hs := (h.below hbW).more (Nat.le_of_lt hszW)
    have hs' := (h'.below hbW).more (Nat.le_of_lt hszW)
    go_wp2_with fail
    refine (l10Is_v true _ _ _ _ _ _ _ _ _ _ hs hs' hn hn' hm).mono ?_
    rintro e w2 ⟨rfl, hb2⟩
    have r0 := (hb2.cell (p := ⟨w.heap.size, 0, none⟩) hszW).trans q0
    have r1 := (hb2.cell (p := ⟨w.heap.size, 1, none⟩) hszW).trans q1
    have r2 := (hb2.cell (p := ⟨w.heap.size, 2, none⟩) hszW).trans q2
    go_wp2_with fail
    go_loop [4] (fun i => ∃ k : Nat, 1 ≤ k ∧ k ≤ vs.length ∧ i = .int .i64 k ∧ (∀ j, 1 ≤ j → j < k → gi vs j ≠ 0)) (fun i => vs.length - (intOf i).toNat)
    case atStart => exact ⟨1, by omega, hpos, rfl, fun j h1 h2 => absurd h2 (by omega)⟩
    case round =>
      obtain ⟨k, hk1, hk, rfl, hpre⟩ := hrel
      have hP := hide hpre
      clear hpre
      by_cases hlt : k < vs.length
      · have c1 := (hb2.cell (p := ⟨b, off + k, none⟩) (by show b < W.heap.size; omega)).trans ((hbW.cell (p := ⟨b, off + k, none⟩) hb).trans (hcH.out k hlt))
        by_cases hv : gi vs k = 0
        · have hvb : (gi vs k == 0) = true := by simpa using hv
          have hF := hide (aniB_f hk1 hlt hv)
          have hV := hide hv
          clear hv
          go_wp2_with fail
          refine bodyPost_ret (v := .tuple #[.bool false, .int .i64 0]) (by simp [results, Try.results20, go_sem]) rfl ?_
          exact ⟨by rw [hC.out, hF.out], hbW.trans (hb2.mono (Nat.le_of_lt hszW))⟩
        · have hvb : (gi vs k == 0) = false := by simpa using hv
          have hV := hide hv
          clear hv
          go_wp2_with fail
          go_round
          case rel => exact ⟨k + 1, by omega, by omega, by go_num, fun j j1 j2 => by rcases Nat.lt_succ_iff_lt_or_eq.1 j2 with h | rfl; exact hP.out j j1 h; exact hV.out⟩
          case measure => simp [intOf]; omega
      · obtain rfl : k = vs.length := by omega
        have hT := hide (aniB_t fun j h1 h2 => hP.out j h1 h2)
        go_wp2_with fail
        refine bodyPost_ret (v := .tuple #[.bool true, .int .i64 0]) (by simp [results, Try.results20, go_sem]) rfl ?_
        exact ⟨by rw [hC.out, hT.out], hbW.trans (hb2.mono (Nat.le_of_lt hszW))⟩
end Go.Proofs.Ytpafkgfjbdhpkaa
