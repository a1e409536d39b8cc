
/- The walks of ElementValue, MetricGauss of both sides. The walks of AddElements, NegateElement, PairElements, of both sides. mod5; what the Gauss sum of a metric is. (The part of G5 that asks no sums of metrics.) FnCondensations, plain: the Gauss sum, the table and the values of a condensation; Lagrangian subgroups leave one class. FnCondensations, plain: the table's rows and entries; lengths. The walks of slices.Index, slices.Contains over int64. The walks of IsAnisotropic, of both sides. FnAnisotropics, plain: the greatest isotropic subgroup leaves the value 1 at one leader alone, and all isotropic subgroups of this size leave the same values. -/
import Derived.Test.YtbpihnpakolooaaGreatDoorP1a
import Derived.Test.YtbpihnpakolooaaGreatDoorEa
import Derived.WalkLawsBesides
import Derived.Test.YtbpihnpakolooaaGreatDoorSBa
import Derived.Test.YtbpihnpakolooaaGreatDoorCma
import Derived.Test.YtbpihnpakolooaaGreatDoorQNb
namespace Go.Proofs.YtbpihnpakolooaaGreatDoor
open Go Go.RowKit Grp
set_option linter.unusedSimpArgs false
set_option linter.unusedVariables false



section
variable {os vs xs : List Int} {D : Int}
theorem codeI_p (h : codeI os D vs xs = 0) : codeS os D vs xs = 0 ∧ isoB vs xs = true := by
 unfold codeI at h
 split at h
 ·rename_i h0
  split at h
  ·rename_i h1; exact ⟨h0, h1⟩
  ·omega
 ·rename_i h0; exact absurd h h0
variable (hI : codeI os D vs xs = 0)
include hI
theorem cd_cs : Cs os D vs xs ∧ xs.Pairwise (· < ·) ∧ SbM os vs xs := by
 obtain ⟨h0, h1⟩ := codeI_p hI
 have hC := Cs.of h0 h1
 have hl := (codeS_0 h0).2.1.lt
 exact ⟨hC, hl, hC.sbM hl⟩
theorem cd_q : cqR os D vs xs = (ldP os D vs xs, ctab os xs (ldP os D vs xs), D, (ldP os D vs xs).map (Vl vs)) := by
 unfold cqR; rw [if_pos hI]; rfl
theorem cd_vals : (voR os D vs xs).length = (ldP os D vs xs).length ∧ (voR os D vs xs).Perm ((ldP os D vs xs).map (Vl vs)) := by
 have hp : (voR os D vs xs).Perm ((ldP os D vs xs).map (Vl vs)) := by
  unfold voR
  rw [cd_q hI]
  exact List.mergeSort_perm _ _
 exact ⟨by rw [hp.length_eq, List.length_map], hp⟩
omit hI in
theorem ldP_mem {x : Int} : x ∈ ldP os D vs xs ↔ x ∈ ortL os D vs xs vs.length ∧ ldr os xs x = x := by
 unfold ldP ldL
 rw [List.take_length, List.mem_filter]
 simp
theorem ldP_rng {x : Int} (h : x ∈ ldP os D vs xs) : x ∈ ortL os D vs xs vs.length ∧ 0 ≤ x ∧ x < prodL os ∧ ldr os xs x = x := by
 obtain ⟨h1, h2⟩ := ldP_mem.1 h
 have := ((cd_cs hI).1.memO rfl).1 h1
 exact ⟨h1, this.1, this.2.1, h2⟩
omit hI in
theorem ldP_nd : (ldP os D vs xs).Nodup := by
 unfold ldP ldL
 rw [List.take_length]
 exact ((ortL_lt os vs xs D vs.length).imp fun {a b} (h : a < b) => (by omega : a ≠ b)).sublist List.filter_sublist
end
theorem cq_len (os : List Int) (D : Int) (vs xs : List Int) (hv : vs.length ≤ 64) : (cqR os D vs xs).1.length ≤ 64 ∧ (cqR os D vs xs).2.1.length ≤ 64 ∧ (cqR os D vs xs).2.2.2.length ≤ 64 ∧ ∀ y ∈ (cqR os D vs xs).2.1, y.length ≤ 1048576 := by
 by_cases hI : codeI os D vs xs = 0
 ·have hP : (ldP os D vs xs).length ≤ 64 := by
   unfold ldP ldL
   rw [List.take_length]
   exact Nat.le_trans (List.length_filter_le _ _) (Nat.le_trans (ortL_len _ _ _ _ _) hv)
  rw [cd_q hI]
  refine ⟨hP, ?_, ?_, ?_⟩
  ·show (ctab os xs (ldP os D vs xs)).length ≤ 64
   unfold ctab; rw [List.length_map]; exact hP
  ·show ((ldP os D vs xs).map (Vl vs)).length ≤ 64
   rw [List.length_map]; exact hP
  ·intro y hy
   have hy' : y ∈ ctab os xs (ldP os D vs xs) := hy
   unfold ctab at hy'
   obtain ⟨x, _, rfl⟩ := List.mem_map.1 hy'
   rw [List.length_map]
   omega
 ·have e : cqR os D vs xs = ([], [], 0, []) := by unfold cqR; rw [if_neg hI]
  rw [e]
  exact ⟨by simp, by simp, by simp, by simp⟩
section
variable {os vs xs : List Int} {D : Int} (hI : codeI os D vs xs = 0)
include hI
end

theorem index_any (w : World) (B : Nat) (A : Option Addr) (n c : Nat) (xs : List Int) (v : Int) (h : Sl w B A n c xs) (hn : n ≤ 1048576) :
  Calls Tryz.prog 122 #[.slice A n c, .int .i64 v] w (fun e w' => ∃ r : Int, e = .returned (.int .i64 r) ∧ decide (0 ≤ r) = xs.any (fun x => x == v) ∧ Dr w w') := by
 obtain rfl := h.len
 go_enter Tryz.func122, Tryz.ntmps122
 go_wp2_with fail
 go_loopw [8] (fun i wr => ∃ k : Nat, k ≤ xs.length ∧ i = .int .i64 k ∧ (∀ j, j < k → gi xs j ≠ v) ∧ wr = w) (fun i _ => xs.length - (intOf i).toNat)
 case atStart => exact ⟨0, by omega, rfl, fun j hj => absurd hj (by omega), rfl⟩
 case round =>
  obtain ⟨k, hk, rfl, hpre, rfl⟩ := hrel
  have hP := hide hpre
  clear hpre
  by_cases hlt : k < xs.length
  ·obtain ⟨b, off, rfl, hb, hc⟩ := h.at_ (by omega)
   have c1 := hc k hlt
   clear hc
   by_cases hv : gi xs k = v
   ·have hvb : (gi xs k == v) = true := by simpa using hv
    have hT := hide (show xs.any (fun x => x == v) = true from List.any_eq_true.2 ⟨_, gi_mem hlt, hvb⟩)
    have hv' := hide hv
    clear hv
    go_wp2_with fail
    go_ret
    exact ⟨k, rfl, by rw [hT.out]; simp, Dr.refl _⟩
   ·have hvb : (gi xs k == v) = false := by simpa using hv
    have hv' := hide hv
    clear hv
    go_wp2_with fail
    go_roundw
    case rel => exact ⟨k + 1, by omega, by go_num, fun j hj => by rcases Nat.lt_succ_iff_lt_or_eq.1 hj with h | rfl; exact hP.out j h; exact hv'.out, trivial⟩
    case measure => simp [intOf] <;> omega
  ·obtain rfl : k = xs.length := by omega
   have hF := hide (show xs.any (fun x => x == v) = false from by
    refine Bool.eq_false_iff.2 fun ha => ?_
    obtain ⟨x, hx, he⟩ := List.any_eq_true.1 ha
    obtain ⟨j, hj, rfl⟩ := List.getElem_of_mem hx
    refine hP.out j hj ?_
    unfold gi
    rw [List.getD_eq_getElem?_getD, List.getElem?_eq_getElem hj]
    simpa using he)
   go_wp2
   go_ret
   exact ⟨-1, rfl, by rw [hF.out]; rfl, Dr.refl _⟩
theorem contains_any (w : World) (B : Nat) (A : Option Addr) (n c : Nat) (xs : List Int) (v : Int) (h : Sl w B A n c xs) (hn : n ≤ 1048576) :
  Calls Tryz.prog 71 #[.slice A n c, .int .i64 v] w (Qt w (.bool (xs.any (fun x => x == v)))) := by
 go_enter Tryz.func71, Tryz.ntmps71
 go_wp2_with fail
 refine (index_any _ _ _ _ _ _ _ h hn).mono ?_
 rintro e w' ⟨r, rfl, hr, dm, rfl⟩
 have hR := hide hr
 clear hr
 go_wp2
 go_ret
 exact Qt.mk' _ rfl (bool_eq hR.out)


def aniB (vs : List Int) : Bool := (vs.drop 1).all fun v => v != 0
theorem any_all (vs : List Int) : ((vs.drop 1).any fun x => x == 0) = !aniB vs := by
 unfold aniB
 rw [List.not_all_eq_any_not]
 congr 1
 funext x
 simp [bne]
set_option maxHeartbeats 1000000 in
theorem impl_Ani_any (w : World) (A : Option Addr) (n c : Nat) (os : List Int) (D : Int) (A' : Option Addr) (n' c' : Nat) (vs : List Int) (h : Sl w w.heap.size A n c os) (h' : Sl w w.heap.size A' n' c' vs) (hn : n ≤ 1048576) (hn' : n' ≤ 1048576) :
  Calls Tryz.prog 30 #[.agg #[.slice A n c, .int .i64 D, .slice A' n' c']] w (ReB w (isM os D vs && aniB vs) (codeM os D vs)) := by
 obtain rfl := h'.len
 cases hm : isM os D vs with
 | false =>
  have hC := hide (show codeM os D vs = 1 by unfold codeM; rw [hm]; rfl)
  go_enter Tryz.func30, Tryz.ntmps30
  go_wp2_with fail
  obtain ⟨W, hW⟩ : ∃ W, w.alloc (.cells #[.slice A n c, .int .i64 D, .slice A' vs.length c'] 26) = W := ⟨_, rfl⟩
  have hbW : Below w.heap.size w W := by rw [← hW]; exact (by repeat (first | assumption | exact Below.refl _ _ | apply below_drewN | apply Below.drew | apply Below.alloc | apply Below.setCell | omega | (focus (simp; done)) | (focus (simp; omega))))
  have hszW : w.heap.size < W.heap.size := by rw [← hW]; simp
  have hsW := hide (show W.heap.size = w.heap.size + 1 by rw [← hW]; simp)
  have bM : Blk W w.heap.size 26 #[.slice A n c, .int .i64 D, .slice A' vs.length c'] := by rw [← hW]; exact Blk.new _ _ _
  have q0 : W.cell? ⟨w.heap.size, 0, none⟩ = some (.slice A n c) := by rw [← hW]; exact (Blk.new _ _ _).cell 0
  have q1 : W.cell? ⟨w.heap.size, 1, none⟩ = some (.int .i64 D) := by rw [← hW]; exact (Blk.new _ _ _).cell 1
  have q2 : W.cell? ⟨w.heap.size, 2, none⟩ = some (.slice A' vs.length c') := by rw [← hW]; exact (Blk.new _ _ _).cell 2
  rw [hW]
  clear hW
  have hs := (h.below hbW).more (Nat.le_of_lt hszW)
  have hs' := (h'.below hbW).more (Nat.le_of_lt hszW)
  go_wp2_with fail
  refine (implIs_v false _ _ _ _ _ _ _ _ _ _ hs hs' hn hn' hm).mono ?_
  rintro e w2 ⟨rfl, hb2⟩
  go_wp2_with fail
  refine bodyPost_ret (v := .tuple #[.bool false, .int .i64 1]) (by simp [results, Tryz.results30, go_sem]) rfl ?_
  exact ⟨by rw [hC.out]; rfl, hbW.trans (hb2.mono (Nat.le_of_lt hszW))⟩
 | true =>
  have hM := isM_iff.1 hm
  have hC := hide (show codeM os D vs = 0 by unfold codeM; rw [hm]; rfl)
  have hpos : 1 ≤ vs.length := by have := hM.ok.len; have := hM.ok.g.ge; omega
  have hE := hide (any_all vs)
  obtain ⟨b, off, rfl, hb, _⟩ := h'.at_ (by omega)
  have hcap := h'.cap
  go_enter Tryz.func30, Tryz.ntmps30
  go_wp2_with fail
  obtain ⟨W, hW⟩ : ∃ W, w.alloc (.cells #[.slice A n c, .int .i64 D, .slice (some ⟨b, off, none⟩) vs.length c'] 26) = W := ⟨_, rfl⟩
  have hbW : Below w.heap.size w W := by rw [← hW]; exact (by repeat (first | assumption | exact Below.refl _ _ | apply below_drewN | apply Below.drew | apply Below.alloc | apply Below.setCell | omega | (focus (simp; done)) | (focus (simp; omega))))
  have hszW : w.heap.size < W.heap.size := by rw [← hW]; simp
  have hsW := hide (show W.heap.size = w.heap.size + 1 by rw [← hW]; simp)
  have bM : Blk W w.heap.size 26 #[.slice A n c, .int .i64 D, .slice (some ⟨b, off, none⟩) vs.length c'] := by rw [← hW]; exact Blk.new _ _ _
  have q0 : W.cell? ⟨w.heap.size, 0, none⟩ = some (.slice A n c) := by rw [← hW]; exact (Blk.new _ _ _).cell 0
  have q1 : W.cell? ⟨w.heap.size, 1, none⟩ = some (.int .i64 D) := by rw [← hW]; exact (Blk.new _ _ _).cell 1
  have q2 : W.cell? ⟨w.heap.size, 2, none⟩ = some (.slice (some ⟨b, off, none⟩) vs.length c') := by rw [← hW]; exact (Blk.new _ _ _).cell 2
  rw [hW]
  clear hW
  have hs := (h.below hbW).more (Nat.le_of_lt hszW)
  have hs' := (h'.below hbW).more (Nat.le_of_lt hszW)
  go_wp2_with fail
  refine (implIs_v true _ _ _ _ _ _ _ _ _ _ hs hs' hn hn' hm).mono ?_
  rintro e w2 ⟨rfl, hb2⟩
  have r0 := (hb2.cell (p := ⟨w.heap.size, 0, none⟩) hszW).trans q0
  have r1 := (hb2.cell (p := ⟨w.heap.size, 1, none⟩) hszW).trans q1
  have r2 := (hb2.cell (p := ⟨w.heap.size, 2, none⟩) hszW).trans q2
  have i1 : (1 : Int) ≤ (vs.length : Int) := by omega
  have hlen2 : 2 ≤ vs.length := by have := hM.ok.len; have := hM.ok.g.ge; omega
  have i2 : ¬ c' = 1 := by omega
  have i3 : 1 < c' := by omega
  go_wp2_with fail
  refine (contains_any _ _ _ _ _ _ _ ((hs'.below hb2).tail hpos) (by omega)).mono ?_
  rintro e w3 ⟨rfl, dm, rfl⟩
  rw [hE.out]
  go_wp2_with fail
  refine bodyPost_ret (v := .tuple #[.bool (aniB vs), .int .i64 0]) (by simp [results, Tryz.results30, go_sem]) rfl ?_
  exact ⟨by rw [hC.out]; rfl, below_drewN (hbW.trans (hb2.mono (Nat.le_of_lt hszW))) _⟩
theorem gi_drop1 {vs : List Int} (j : Nat) : gi (vs.drop 1) j = gi vs (j + 1) := by
 unfold gi; rw [List.getD_eq_getElem?_getD, List.getD_eq_getElem?_getD, List.getElem?_drop, Nat.add_comm 1 j]
theorem aniB_f {vs : List Int} {k : Nat} (h1 : 1 ≤ k) (hk : k < vs.length) (h : gi vs k = 0) : aniB vs = false := by
 refine Bool.eq_false_iff.2 fun ha => ?_
 have hm : gi (vs.drop 1) (k - 1) ∈ vs.drop 1 := gi_mem (by rw [List.length_drop]; omega)
 have := List.all_eq_true.1 ha _ hm
 rw [gi_drop1, show k - 1 + 1 = k by omega, h] at this
 cases this
theorem aniB_t {vs : List Int} (h : ∀ j, 1 ≤ j → j < vs.length → gi vs j ≠ 0) : aniB vs = true := by
 refine List.all_eq_true.2 fun x hx => ?_
 obtain ⟨j, hj, rfl⟩ := List.getElem_of_mem hx
 rw [List.length_drop] at hj
 have := h (j + 1) (by omega) (by omega)
 rw [← gi_drop1] at this
 unfold gi at this
 rw [List.getD_eq_getElem?_getD, List.getElem?_eq_getElem (by rw [List.length_drop]; omega)] at this
 simpa using this
section
variable {os vs : List Int} {D : Int} (hM : IsM os D vs)
include hM
theorem PrM_rng (x y : Int) : 0 ≤ Pr os D vs x y ∧ Pr os D vs x y < D := ⟨Int.emod_nonneg _ (by have := hM.ok.d1; omega), Int.emod_lt_of_pos _ (by have := hM.ok.d1; omega)⟩
theorem Pr_self {x : Int} (x0 : 0 ≤ x) (x1 : x < vs.length) (h : Vl vs x = 0) : Pr os D vs x x = 0 := by
 have hG := hM.ok.g
 have hl := hM.ok.len
 have hn : Vl vs (Ng os x) = Vl vs x := by
  have := hM.neg x.toNat (by omega)
  rwa [Int.toNat_of_nonneg x0] at this
 have hz : Vl vs 0 = 0 := hM.zero
 have rn := Ng_rng hG x
 have h1 : Pr os D vs x (Ng os x) = 0 := by
  unfold Pr
  rw [Ar_neg hG, hz, hn, h]; rfl
 have h2 := bilI hM x0 x1 rn.1 (show Ng os x < vs.length by omega) x0 x1
 rw [Ar_neg hG, Pr_z hM x0 x1, Pr_comm hM (Ng os x) x, h1, Int.add_zero] at h2
 have r := PrM_rng hM x x
 rw [Int.emod_eq_of_lt r.1 r.2] at h2
 exact h2.symm
theorem Vl_add0 {a z : Int} (a0 : 0 ≤ a) (a1 : a < vs.length) (z0 : 0 ≤ z) (z1 : z < vs.length) (h : Vl vs a = 0) (hp : Pr os D vs a z = 0) : Vl vs (Ar os a z) = Vl vs z := by
 have h1 := Vl_add hM a z
 have hr := Ar_rng hM.ok.g a z
 have hl := hM.ok.len
 rw [h, hp, Int.zero_add, Int.add_zero] at h1
 have r1 := Vl_rng hM hr.1 (by omega)
 have r2 := Vl_rng hM z0 z1
 rwa [Int.emod_eq_of_lt r1.1 r1.2, Int.emod_eq_of_lt r2.1 r2.2] at h1
theorem iso_more {H : List Int} (hC : Cs os D vs H) {x : Int} (hx : x ∈ ortL os D vs H vs.length) (hv : Vl vs x = 0) : Cs os D vs (genL (Ar os) (H ++ [x]) vs.length) := by
 have hG := hM.ok.g
 have hl := hM.ok.len
 have rx := mem_ortL.1 hx
 have hsub : ∀ z ∈ H ++ [x], z ∈ ortL os D vs H vs.length ∧ Pr os D vs z x = 0 ∧ Vl vs z = 0 := fun z hz => by
  rcases List.mem_append.1 hz with hz | hz
  ·exact ⟨hC.subO rfl hz, by rw [Pr_comm hM]; exact rx.2.2 z hz, hC.iso z hz⟩
  ·rw [List.mem_singleton.1 hz]; exact ⟨hx, Pr_self hM rx.1 rx.2.1 hv, hv⟩
 have hrng : ∀ z ∈ H ++ [x], 0 ≤ z ∧ z < vs.length := fun z hz => by have := mem_ortL.1 (hsub z hz).1; exact ⟨this.1, this.2.1⟩
 have hS := gen_sbg hG hl hrng
 have key : ∀ a, Gen (Ar os) (H ++ [x]) a → a ∈ ortL os D vs H vs.length ∧ Pr os D vs a x = 0 ∧ Vl vs a = 0 := fun a ha => by
  induction ha with
  | zero => exact hsub 0 (List.mem_append_left _ hC.zero)
  | @step a z _ hz ih =>
   obtain ⟨p1, p2, p3⟩ := ih
   obtain ⟨q1, q2, q3⟩ := hsub z hz
   have ra := mem_ortL.1 p1
   have rz := mem_ortL.1 q1
   have hp : Pr os D vs a z = 0 := by
    rcases List.mem_append.1 hz with hz | hz
    ·exact ra.2.2 z hz
    ·rw [List.mem_singleton.1 hz]; exact p2
   refine ⟨hC.addO rfl p1 q1, ?_, ?_⟩
   ·rw [bilI hM ra.1 ra.2.1 rz.1 rz.2.1 rx.1 rx.2.1, p2, q2]; simp
   ·rw [Vl_add0 hM ra.1 ra.2.1 rz.1 rz.2.1 p3 hp, q3]
 refine ⟨hM, fun y hy => ?_, (genL_lt _ _ _).imp fun h => by omega, hS.zero, hS.add, fun y hy => (key y (mem_genL.1 hy).1).2.2⟩
 have := mem_genL.1 hy
 exact ⟨this.2.1, by omega⟩
end
structure Mx (os : List Int) (D : Int) (vs H : List Int) : Prop where
 c : Cs os D vs H
 lt : H.Pairwise (· < ·)
 mx : ∀ x ∈ ortL os D vs H vs.length, Vl vs x = 0 → x ∈ H
section
variable {os vs : List Int} {D : Int} (hM : IsM os D vs)
include hM
theorem Mx.of {H : List Int} (hC : Cs os D vs H) (hs : H.Pairwise (· < ·)) (hmax : ∀ H', Cs os D vs H' → H'.Pairwise (· < ·) → H'.length ≤ H.length) : Mx os D vs H := by
 refine ⟨hC, hs, fun x hx hv => Classical.byContradiction fun hn => ?_⟩
 have hG := hM.ok.g
 have hl := hM.ok.len
 have rx := mem_ortL.1 hx
 have h1 := hmax _ (iso_more hM hC hx hv) (genL_lt _ _ _)
 have hrng : ∀ z ∈ H ++ [x], 0 ≤ z ∧ z < vs.length := fun z hz => by
  rcases List.mem_append.1 hz with hz | hz
  ·have := hC.rng z hz; omega
  ·rw [List.mem_singleton.1 hz]; exact ⟨rx.1, rx.2.1⟩
 have nd : (x :: H).Nodup := List.nodup_cons.2 ⟨hn, hC.nodup⟩
 have := nd.length_le_of_subset (l₂ := genL (Ar os) (H ++ [x]) vs.length) fun y hy => gen_mem hG hl hrng (by
  rcases List.mem_cons.1 hy with rfl | hy
  ·simp
  ·simp [hy])
 simp at this
 omega
theorem code_cs {H : List Int} (hC : Cs os D vs H) (hs : H.Pairwise (· < ·)) : codeI os D vs H = 0 :=
 codeI_t (codeS_t hM (lst_of hs hC.rng) (clB_iff.2 ⟨hC.zero, hC.add⟩)) (List.all_eq_true.2 fun x hx => by simpa using hC.iso x hx)
theorem iso_mem {H : List Int} (hC : Cs os D vs H) (hs : H.Pairwise (· < ·)) : ((msk H : Nat) : Int) ∈ isoK os vs ∧ mems vs.length ((msk H : Nat) : Int).toNat = H := by
 have hH := hC.sbM hs
 have hm : mems vs.length ((msk H : Nat) : Int).toNat = H := by rw [Int.toNat_natCast]; exact mems_msk hs hH.rng
 refine ⟨?_, hm⟩
 unfold isoK
 rw [List.mem_filter, hm]
 exact ⟨msk_all hM hH, List.all_eq_true.2 fun x hx => by simpa using hC.iso x hx⟩
theorem iso_cs {m : Int} (hm : m ∈ isoK os vs) : Cs os D vs (mems vs.length m.toNat) ∧ (mems vs.length m.toNat).Pairwise (· < ·) := by
 unfold isoK at hm
 rw [List.mem_filter] at hm
 obtain ⟨h1, h2⟩ := hm
 unfold sgK at h1
 obtain ⟨k, hk, rfl⟩ := List.mem_map.1 h1
 rw [Int.toNat_natCast] at h2 ⊢
 have hK := mem_allK.1 hk
 have hl := hM.ok.len
 have hp := mems_lt vs.length k
 refine ⟨⟨hM, fun x hx => by have := mem_mems.1 hx; omega, hp.imp fun h => by omega, hK.2.zero, hK.2.add, fun x hx => ?_⟩, hp⟩
 simpa using List.all_eq_true.1 h2 x hx
omit hM in
theorem best_fold (N : Nat) (ms : List Int) : ∀ b : List Int, (ms.foldl (fun b m => if b.length < (mems N m.toNat).length then mems N m.toNat else b) b = b ∨ ∃ m ∈ ms, ms.foldl (fun b m => if b.length < (mems N m.toNat).length then mems N m.toNat else b) b = mems N m.toNat) ∧ b.length ≤ (ms.foldl (fun b m => if b.length < (mems N m.toNat).length then mems N m.toNat else b) b).length ∧ ∀ m ∈ ms, (mems N m.toNat).length ≤ (ms.foldl (fun b m => if b.length < (mems N m.toNat).length then mems N m.toNat else b) b).length := by
 induction ms with
 | nil => intro b; exact ⟨.inl rfl, Nat.le_refl _, by simp⟩
 | cons x r ih =>
  intro b
  simp only [List.foldl_cons]
  by_cases hc : b.length < (mems N x.toNat).length
  ·rw [if_pos hc]
   obtain ⟨h1, h2, h3⟩ := ih (mems N x.toNat)
   refine ⟨.inr ?_, by omega, fun m hm => ?_⟩
   ·rcases h1 with h1 | ⟨m, hm, h1⟩
    ·exact ⟨x, by simp, h1⟩
    ·exact ⟨m, by simp [hm], h1⟩
   ·rcases List.mem_cons.1 hm with rfl | hm
    ·exact h2
    ·exact h3 m hm
  ·rw [if_neg hc]
   obtain ⟨h1, h2, h3⟩ := ih b
   refine ⟨?_, h2, fun m hm => ?_⟩
   ·rcases h1 with h1 | ⟨m, hm, h1⟩
    ·exact .inl h1
    ·exact .inr ⟨m, by simp [hm], h1⟩
   ·rcases List.mem_cons.1 hm with rfl | hm
    ·omega
    ·exact h3 m hm
theorem one_cs : Cs os D vs [0] := by
 have hG := hM.ok.g
 have hge := hG.ge
 refine ⟨hM, fun x hx => by rw [List.mem_singleton.1 hx]; omega, by simp, by simp, fun x hx y hy => ?_, fun x hx => ?_⟩
 ·rw [List.mem_singleton.1 hx, List.mem_singleton.1 hy, Ar_zero hG (by omega) (by omega)]; simp
 ·rw [List.mem_singleton.1 hx]; exact hM.zero
theorem best_mx : Cs os D vs (bestL vs.length (isoK os vs)) ∧ (bestL vs.length (isoK os vs)).Pairwise (· < ·) ∧ ∀ H', Cs os D vs H' → H'.Pairwise (· < ·) → H'.length ≤ (bestL vs.length (isoK os vs)).length := by
 obtain ⟨h1, h2, h3⟩ := best_fold vs.length (isoK os vs) []
 change (bestL vs.length (isoK os vs) = [] ∨ ∃ m ∈ isoK os vs, bestL vs.length (isoK os vs) = mems vs.length m.toNat) at h1
 change ∀ m ∈ isoK os vs, (mems vs.length m.toNat).length ≤ (bestL vs.length (isoK os vs)).length at h3
 have hmax : ∀ H', Cs os D vs H' → H'.Pairwise (· < ·) → H'.length ≤ (bestL vs.length (isoK os vs)).length := fun H' hC hs => by
  obtain ⟨a, b⟩ := iso_mem hM hC hs
  have := h3 _ a
  rwa [b] at this
 have h0 := hmax _ (one_cs hM) (by simp)
 rcases h1 with h1 | ⟨m, hm, h1⟩
 ·rw [h1] at h0; simp at h0
 ·have := iso_cs hM hm
  rw [← h1] at this
  exact ⟨this.1, this.2, hmax⟩
theorem mx_zero {H : List Int} (hX : Mx os D vs H) {l : Int} (hl : l ∈ ldP os D vs H) : Vl vs l = 0 ↔ l = 0 := by
 constructor
 ·intro hv
  obtain ⟨h1, h2⟩ := ldP_mem.1 hl
  have hH := hX.mx l h1 hv
  obtain ⟨g, hg, e⟩ := hX.c.inv hH
  have h3 := ldr_le_add (os := os) (x := l) hg
  have := hX.c.rng l hH
  omega
 ·rintro rfl; exact hM.zero
theorem zero_ldP {H : List Int} (hC : Cs os D vs H) : (0 : Int) ∈ ldP os D vs H := by
 have hge := hM.ok.g.ge
 have h1 := ldr_le os H 0
 have h2 := hC.ldr_rng (x := 0) (by omega) (by omega)
 exact ldP_mem.2 ⟨hC.subO rfl hC.zero, by omega⟩
omit hM in
theorem srt_pw (xs : List Int) : (srt xs).Pairwise (· ≤ ·) := by
 have := List.pairwise_mergeSort (le := fun x y : Int => decide (x ≤ y)) (fun a b c h1 h2 => by simp at *; omega) (fun a b => by simp; omega) xs
 exact this.imp fun hab => by simpa using hab
theorem an_values {H : List Int} (hX : Mx os D vs H) : (voR os D vs H).length ≠ 0 ∧ gi (voR os D vs H) 0 = 0 ∧ (1 < (voR os D vs H).length → gi (voR os D vs H) 1 ≠ 0) := by
 have hI := code_cs hM hX.c hX.lt
 obtain ⟨hlen, hp⟩ := cd_vals hI
 have hz := zero_ldP hM hX.c
 have hlp := List.length_pos_of_mem hz
 have hpw : (voR os D vs H).Pairwise (· ≤ ·) := by unfold voR; exact srt_pw _
 have hl := hM.ok.len
 have hnn : ∀ v ∈ voR os D vs H, 0 ≤ v := fun v hv => by
  obtain ⟨y, hy, rfl⟩ := List.mem_map.1 (hp.mem_iff.1 hv)
  have hy2 := ldP_rng hI hy
  exact (Vl_rng hM hy2.2.1 (by omega)).1
 have h0m : (0 : Int) ∈ voR os D vs H := hp.mem_iff.2 (List.mem_map.2 ⟨0, hz, hM.zero⟩)
 have hcnt : (voR os D vs H).count 0 ≤ 1 := by
  rw [hp.count_eq, List.count, List.countP_map]
  have : (ldP os D vs H).countP ((fun x => x == 0) ∘ Vl vs) = (ldP os D vs H).countP (fun x => x == 0) := by
   refine List.countP_congr fun l hl => ?_
   have := mx_zero hM hX hl
   simpa using this
  rw [this]
  exact List.nodup_iff_count.1 (ldP_nd (os := os) (D := D) (vs := vs) (xs := H)) 0
 refine ⟨by omega, ?_⟩
 cases hV : voR os D vs H with
 | nil => rw [hV] at h0m; simp at h0m
 | cons a r =>
  rw [hV] at h0m hpw hnn hcnt
  have ha : a = 0 := by
   have := hnn a (by simp)
   rcases List.mem_cons.1 h0m with h | h
   ·exact h.symm
   ·have := (List.pairwise_cons.1 hpw).1 0 h; omega
  refine ⟨ha, fun h1 => ?_⟩
  cases r with
  | nil => simp at h1
  | cons b t =>
   intro hb
   have hb : b = 0 := hb
   rw [ha, hb] at hcnt
   simp at hcnt
theorem mx_plain {H : List Int} (hX : Mx os D vs H) : aniB vs = decide (H.length = 1) := by
 have hG := hM.ok.g
 have hl := hM.ok.len
 have hge := hG.ge
 by_cases h1 : H.length = 1
 ·rw [decide_eq_true h1]
  have hH : H = [0] := by
   obtain ⟨a, rfl⟩ := List.length_eq_one_iff.1 h1
   rw [← List.mem_singleton.1 hX.c.zero]
  refine aniB_t fun j j1 j2 h0 => ?_
  have hj : (j : Int) ∈ ortL os D vs H vs.length := mem_ortL.2 ⟨by omega, by omega, fun y hy => by
   rw [hH] at hy
   rw [List.mem_singleton.1 hy, Pr_comm hM, Pr_z hM (by omega) (by omega)]⟩
  have := hX.mx j hj (by unfold Vl; rwa [Int.toNat_natCast])
  rw [hH] at this
  have := List.mem_singleton.1 this
  omega
 ·rw [decide_eq_false h1]
  have h2 : 2 ≤ H.length := by have := List.length_pos_of_mem hX.c.zero; omega
  have hex : ∃ x ∈ H, x ≠ 0 := by
   refine Classical.byContradiction fun hn => ?_
   have := hX.c.nodup.length_le_of_subset (l₂ := [0]) fun x hx => List.mem_singleton.2 (Classical.byContradiction fun h => hn ⟨x, hx, h⟩)
   simp at this
   omega
  obtain ⟨x, hx, hne⟩ := hex
  have rx := hX.c.rng x hx
  exact aniB_f (k := x.toNat) (by omega) (by omega) (hX.c.iso x hx)
end
section
variable {os vs : List Int} {D : Int} (hM : IsM os D vs)
include hM
theorem gen_two {A B : List Int} (hA : SbM os vs A) (hB : SbM os vs B) {z : Int} (hz : Gen (Ar os) (A ++ B) z) : ∃ a ∈ A, ∃ b ∈ B, z = Ar os a b := by
 have hG := hM.ok.g
 have hge := hG.ge
 have hl := hM.ok.len
 induction hz with
 | zero => exact ⟨0, hA.sb.zero, 0, hB.sb.zero, (Ar_zero hG (by omega) (by omega)).symm⟩
 | @step y x _ hx ih =>
  obtain ⟨a, ha, b, hb, rfl⟩ := ih
  rcases List.mem_append.1 hx with hx | hx
  ·refine ⟨Ar os a x, hA.sb.add a ha x hx, b, hb, ?_⟩
   rw [Ar_assoc hG, Ar_comm os b x, ← Ar_assoc hG]
  ·exact ⟨a, ha, Ar os b x, hB.sb.add b hb x hx, Ar_assoc hG _ _ _⟩
theorem two_sb {A B : List Int} (hA : SbM os vs A) (hB : SbM os vs B) : SbM os vs (genL (Ar os) (A ++ B) vs.length) ∧ (∀ x ∈ A, x ∈ genL (Ar os) (A ++ B) vs.length) ∧ ∀ x ∈ B, x ∈ genL (Ar os) (A ++ B) vs.length := by
 have hG := hM.ok.g
 have hl := hM.ok.len
 have hrng : ∀ z ∈ A ++ B, 0 ≤ z ∧ z < vs.length := fun z hz => by
  rcases List.mem_append.1 hz with hz | hz
  ·exact hA.rng z hz
  ·exact hB.rng z hz
 exact ⟨⟨gen_sbg hG hl hrng, genL_lt _ _ _, fun x hx => by have := mem_genL.1 hx; exact this.2⟩, fun x hx => gen_mem hG hl hrng (by simp [hx]), fun x hx => gen_mem hG hl hrng (by simp [hx])⟩
theorem mx_meet {H1 H2 : List Int} (hn : Ndg os D vs) (h1 : Mx os D vs H1) (h2 : Mx os D vs H2) {x : Int} (hx : x ∈ ortL os D vs H1 vs.length) : ∃ h ∈ H1, Ar os x h ∈ ortL os D vs H2 vs.length := by
 have hG := hM.ok.g
 have hl := hM.ok.len
 have s1 := h1.c.sbM h1.lt
 have s2 := h2.c.sbM h2.lt
 obtain ⟨sT, t1, t2⟩ := two_sb hM s1 s2
 have sK := ort_sb hM sT
 obtain ⟨sS, u1, u2⟩ := two_sb hM sK s1
 have rx := mem_ortL.1 hx
 have hxS : x ∈ genL (Ar os) (ortL os D vs (genL (Ar os) (H1 ++ H2) vs.length) vs.length ++ H1) vs.length := by
  rw [← ort_back hM sS hn]
  refine mem_ortL.2 ⟨rx.1, rx.2.1, fun y hy => ?_⟩
  have ry := mem_ortL.1 hy
  have hyT : y ∈ genL (Ar os) (H1 ++ H2) vs.length := by
   rw [← ort_back hM sT hn]
   exact mem_ortL.2 ⟨ry.1, ry.2.1, fun k hk => ry.2.2 k (u1 k hk)⟩
  have hyO : y ∈ ortL os D vs H1 vs.length := mem_ortL.2 ⟨ry.1, ry.2.1, fun k hk => ry.2.2 k (u2 k hk)⟩
  obtain ⟨a, ha, b, hb, e⟩ := gen_two hM s1 s2 (mem_genL.1 hyT).1
  obtain ⟨g, hg, eg⟩ := h1.c.inv ha
  have rb := h2.c.rng b hb
  have eb : b = Ar os y g := by
   rw [e, Ar_assoc hG, Ar_comm os b g, ← Ar_assoc hG, eg, Ar_comm, Ar_zero hG rb.1 rb.2]
  have hbO : b ∈ ortL os D vs H1 vs.length := by rw [eb]; exact h1.c.addO rfl hyO (h1.c.subO rfl hg)
  have hb1 := h1.mx b hbO (h2.c.iso b hb)
  have hy1 : y ∈ H1 := by rw [e]; exact h1.c.add a ha b hb1
  exact rx.2.2 y hy1
 obtain ⟨k, hk, h, hh, e⟩ := gen_two hM sK s1 (mem_genL.1 hxS).1
 obtain ⟨g, hg, eg⟩ := h1.c.inv hh
 have rk := mem_ortL.1 hk
 refine ⟨g, hg, ?_⟩
 rw [e, Ar_assoc hG, eg, Ar_zero hG rk.1 (by omega)]
 exact mem_ortL.2 ⟨rk.1, rk.2.1, fun y hy => rk.2.2 y (t2 y hy)⟩
theorem ldr_val {H : List Int} (hC : Cs os D vs H) {k : Int} (hk : k ∈ ortL os D vs H vs.length) : Vl vs (ldr os H k) = Vl vs k := by
 have rk := mem_ortL.1 hk
 have hl := hM.ok.len
 obtain ⟨h, hh, e⟩ := hC.ldr_mem rk.1 (show k < prodL os by omega)
 have rh := hC.rng h hh
 rw [e, Ar_comm, Vl_add0 hM rh.1 (by omega) rk.1 rk.2.1 (hC.iso h hh) (by rw [Pr_comm hM]; exact rk.2.2 h hh)]
theorem mx_cross {H1 H2 : List Int} (h1 : Mx os D vs H1) (h2 : Mx os D vs H2) {x y : Int} (x1 : x ∈ ortL os D vs H1 vs.length) (x2 : x ∈ ortL os D vs H2 vs.length) (y1 : y ∈ ortL os D vs H1 vs.length) (y2 : y ∈ ortL os D vs H2 vs.length) (he : ldr os H1 x = ldr os H1 y) : ldr os H2 x = ldr os H2 y := by
 have hG := hM.ok.g
 have hl := hM.ok.len
 have rx := mem_ortL.1 x1
 have ry := mem_ortL.1 y1
 obtain ⟨h, hh, e⟩ := h1.c.same rx.1 (by omega) ry.1 (by omega) he.symm
 have rh := h1.c.rng h hh
 have sb := ort_sb hM (h2.c.sbM h2.lt)
 obtain ⟨g, hg, eg⟩ := sb_inv hG hl sb.sb sb.nd sb.rng x2
 have eh : h = Ar os y g := by
  rw [e, Ar_assoc hG, Ar_comm os h g, ← Ar_assoc hG, eg, Ar_comm, Ar_zero hG rh.1 rh.2]
 have hO : h ∈ ortL os D vs H2 vs.length := by rw [eh]; exact sb.sb.add y y2 g hg
 have h2m := h2.mx h hO (h1.c.iso h hh)
 rw [e, h2.c.coset rx.1 (by omega) h2m]
theorem mx_same {H1 H2 : List Int} (hn : Ndg os D vs) (h1 : Mx os D vs H1) (h2 : Mx os D vs H2) : voR os D vs H1 = voR os D vs H2 := by
 have hl := hM.ok.len
 have hex : ∀ l, ∃ k, l ∈ ldP os D vs H1 → k ∈ ortL os D vs H1 vs.length ∧ k ∈ ortL os D vs H2 vs.length ∧ ldr os H1 k = l := fun l => by
  by_cases hl1 : l ∈ ldP os D vs H1
  ·obtain ⟨a1, a2⟩ := ldP_mem.1 hl1
   obtain ⟨h, hh, hk⟩ := mx_meet hM hn h1 h2 a1
   have rl := mem_ortL.1 a1
   exact ⟨Ar os l h, fun _ => ⟨h1.c.addO rfl a1 (h1.c.subO rfl hh), hk, (h1.c.coset rl.1 (by omega) hh).trans a2⟩⟩
  ·exact ⟨0, fun h => absurd h hl1⟩
 obtain ⟨c, hc⟩ := Classical.axiomOfChoice hex
 have hperm : (ldP os D vs H2).Perm ((ldP os D vs H1).map fun l => ldr os H2 (c l)) := by
  refine (List.perm_ext_iff_of_nodup ldP_nd ?_).2 fun v => ?_
  ·rw [List.nodup_iff_pairwise_ne, List.pairwise_map]
   refine (List.nodup_iff_pairwise_ne.1 (ldP_nd (os := os) (D := D) (vs := vs) (xs := H1))).imp_of_mem fun {a b} ha hb hab he => hab ?_
   obtain ⟨a1, a2, a3⟩ := hc a ha
   obtain ⟨b1, b2, b3⟩ := hc b hb
   rw [← a3, ← b3]
   exact mx_cross hM h2 h1 a2 a1 b2 b1 he
  ·constructor
   ·intro hv
    obtain ⟨a1, a2⟩ := ldP_mem.1 hv
    obtain ⟨h, hh, hk⟩ := mx_meet hM hn h2 h1 a1
    have rl := mem_ortL.1 a1
    have k2 := h2.c.addO rfl a1 (h2.c.subO rfl hh)
    have rk := mem_ortL.1 hk
    have hkl : ldr os H2 (Ar os v h) = v := (h2.c.coset rl.1 (by omega) hh).trans a2
    have hlm : ldr os H1 (Ar os v h) ∈ ldP os D vs H1 := ldP_mem.2 ⟨h1.c.ldrO rfl hk, h1.c.ldr_ldr rk.1 (by omega)⟩
    obtain ⟨c1, c2, c3⟩ := hc _ hlm
    exact List.mem_map.2 ⟨_, hlm, (mx_cross hM h1 h2 c1 c2 hk k2 c3).trans hkl⟩
   ·intro hv
    obtain ⟨l, hl1, rfl⟩ := List.mem_map.1 hv
    obtain ⟨c1, c2, c3⟩ := hc l hl1
    have rk := mem_ortL.1 c2
    exact ldP_mem.2 ⟨h2.c.ldrO rfl c2, h2.c.ldr_ldr rk.1 (by omega)⟩
 have hvp : ((ldP os D vs H2).map (Vl vs)).Perm ((ldP os D vs H1).map (Vl vs)) := by
  refine (hperm.map _).trans ?_
  rw [List.map_map]
  refine List.Perm.of_eq (List.map_congr_left fun l hl1 => ?_)
  obtain ⟨c1, c2, c3⟩ := hc l hl1
  show Vl vs (ldr os H2 (c l)) = Vl vs l
  rw [ldr_val hM h2.c c2, ← ldr_val hM h1.c c1, c3]
 have p1 := (cd_vals (code_cs hM h1.c h1.lt)).2
 have p2 := (cd_vals (code_cs hM h2.c h2.lt)).2
 have hp := p1.trans (hvp.symm.trans p2.symm)
 refine hp.eq_of_pairwise (le := (· ≤ ·)) (fun a b _ _ h1 h2 => by omega) ?_ ?_
 ·unfold voR; exact srt_pw _
 ·unfold voR; exact srt_pw _
end
end Go.Proofs.YtbpihnpakolooaaGreatDoor
