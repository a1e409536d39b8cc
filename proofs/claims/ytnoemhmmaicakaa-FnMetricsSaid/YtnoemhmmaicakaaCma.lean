
/- Sums of a metric's values and pairings over subgroups, told plainly: orthogonal subgroups and their sizes, Gauss sums of negatives and of condensations. No program is walked here. Gauss sums told plainly: that of a nondegenerate metric times that of its negative, that of a condensation, that of a sum. No program is walked here. -/
import Derived.Test.YtnoemhmmaicakaaCH
import Derived.Test.YtnoemhmmaicakaaU5
import Derived.Test.YtnoemhmmaicakaaR2
import Derived.Test.YtnoemhmmaicakaaCN
namespace Go.Proofs.Ytnoemhmmaicakaa
open Go Go.RowKit Grp
set_option linter.unusedVariables false
set_option linter.unusedSectionVars false
/-- The pairing as a power of the root; the value as one. -/
noncomputable def bt (os : List Int) (D : Int) (vs : List Int) (x y : Int) : Int := (rp D.toNat (Pr os D vs x y) : Int)
noncomputable def th (D : Int) (vs : List Int) (x : Int) : Int := (rp D.toNat (Vl vs x) : Int)
theorem ordB_dvd {D : Int} (h : ordB D = true) : 1 ≤ D.toNat ∧ D.toNat ∣ 55440 ∧ ((D.toNat : Nat) : Int) = D := by
  unfold ordB at h
  obtain ⟨h1, h2⟩ := of_decide_eq_true h
  obtain ⟨d, rfl⟩ := Int.eq_ofNat_of_zero_le (show 0 ≤ D by omega)
  refine ⟨by omega, Nat.dvd_of_mod_eq_zero ?_, by simp⟩
  have : ((55440 % d : Nat) : Int) = 0 := by rw [Int.natCast_emod]; exact h2
  exact Int.ofNat.inj this
theorem mod_add_mod {a b D : Int} : (a % D + b % D) % D = (a + b) % D := (Int.add_emod a b D).symm
section
variable {os vs : List Int} {D : Int} (hM : IsM os D vs)
include hM
theorem bilI {x y z : Int} (x0 : 0 ≤ x) (x1 : x < vs.length) (y0 : 0 ≤ y) (y1 : y < vs.length) (z0 : 0 ≤ z) (z1 : z < vs.length) : Pr os D vs (Ar os x y) z = (Pr os D vs x z + Pr os D vs y z) % D := by
  have hl := hM.ok.len
  obtain ⟨a, rfl⟩ := Int.eq_ofNat_of_zero_le x0
  obtain ⟨b, rfl⟩ := Int.eq_ofNat_of_zero_le y0
  obtain ⟨c, rfl⟩ := Int.eq_ofNat_of_zero_le z0
  exact hM.bil a b c (by omega) (by omega) (by omega)
theorem Pr_comm (x y : Int) : Pr os D vs x y = Pr os D vs y x := by
  unfold Pr
  rw [Ar_comm os x y]
  congr 1
  omega
theorem Vl_rng {x : Int} (x0 : 0 ≤ x) (x1 : x < vs.length) : 0 ≤ Vl vs x ∧ Vl vs x < D := by
  unfold Vl
  exact hM.ok.rng _ (gi_mem (by omega))
theorem Vl_add (x y : Int) : Vl vs (Ar os x y) % D = (Vl vs x + Vl vs y + Pr os D vs x y) % D := by
  unfold Pr
  rw [Int.add_emod_emod]
  congr 1
  omega
theorem th_add (x y : Int) : Cg (th D vs (Ar os x y)) (th D vs x * th D vs y * bt os D vs x y) := by
  obtain ⟨h1, h2, h3⟩ := ordB_dvd hM.ord
  have e : rp D.toNat (Vl vs (Ar os x y)) = rp D.toNat (Vl vs x + Vl vs y + Pr os D vs x y) := rp_cg (by rw [h3]; exact Vl_add hM x y)
  unfold th bt
  rw [e]
  exact (rp_addC h1 h2 _ _).trans ((rp_addC h1 h2 _ _).mul (Cg.rfl' _))
theorem bt_add {x y z : Int} (x0 : 0 ≤ x) (x1 : x < vs.length) (y0 : 0 ≤ y) (y1 : y < vs.length) (z0 : 0 ≤ z) (z1 : z < vs.length) : Cg (bt os D vs (Ar os x y) z) (bt os D vs x z * bt os D vs y z) := by
  obtain ⟨h1, h2, h3⟩ := ordB_dvd hM.ord
  have e : rp D.toNat (Pr os D vs (Ar os x y) z) = rp D.toNat (Pr os D vs x z + Pr os D vs y z) := rp_cg (by rw [h3, bilI hM x0 x1 y0 y1 z0 z1, Int.emod_emod])
  unfold bt
  rw [e]
  exact rp_addC h1 h2 _ _
theorem bt_comm (x y : Int) : bt os D vs x y = bt os D vs y x := by unfold bt; rw [Pr_comm hM]
theorem bt_one {x y : Int} (h : Cg (bt os D vs x y) 1) : Pr os D vs x y = 0 := by
  obtain ⟨h1, h2, h3⟩ := ordB_dvd hM.ord
  have hr := Pr_rng hM.ok x y
  unfold bt at h
  have := h.small (by omega) (by have := rp_lt D.toNat (Pr os D vs x y); omega) (by omega) (by omega)
  have h4 := rp_one h1 h2 (k := Pr os D vs x y) (by exact_mod_cast this)
  rw [h3, Int.emod_eq_of_lt hr.1 hr.2] at h4
  exact h4
theorem bt_zero {x y : Int} (h : Pr os D vs x y = 0) : bt os D vs x y = 1 := by
  obtain ⟨h1, h2, h3⟩ := ordB_dvd hM.ord
  unfold bt
  rw [h, rp_zero h2]; rfl
theorem th_zero {x : Int} (h : Vl vs x = 0) : th D vs x = 1 := by
  obtain ⟨h1, h2, h3⟩ := ordB_dvd hM.ord
  unfold th
  rw [h, rp_zero h2]; rfl
end
/-! ### a subgroup of a metric -/
/-- A subgroup told in order. -/
structure SbM (os vs H : List Int) : Prop where
  sb : Sbg os H
  lt : H.Pairwise (· < ·)
  rng : ∀ x ∈ H, 0 ≤ x ∧ x < vs.length
theorem SbM.nd {os vs H : List Int} (h : SbM os vs H) : H.Nodup := h.lt.imp fun h => by omega
section
variable {os vs H : List Int} {D : Int} (hM : IsM os D vs) (hH : SbM os vs H)
include hM
theorem whole_sb : SbM os vs (els vs.length) := ⟨els_sbg hM.ok.g hM.ok.len, by
    unfold els
    exact List.Pairwise.map _ (R := (· < ·)) (fun a b h => by simpa using h) List.pairwise_lt_range, fun x hx => mem_els.1 hx⟩
include hH
/-- The sum of a pairing over a subgroup. -/
theorem pair_sum {x : Int} (x0 : 0 ≤ x) (x1 : x < vs.length) :
    ((∀ y ∈ H, Pr os D vs x y = 0) → smL (fun y => bt os D vs x y) H = H.length) ∧ ((∃ y ∈ H, Pr os D vs x y ≠ 0) → Cg (smL (fun y => bt os D vs x y) H) 0) := by
  refine ⟨fun h => ?_, fun ⟨y, hy, hne⟩ => ?_⟩
  · rw [smL_ext (g := fun _ => 1) fun y hy => bt_zero hM (h y hy), smL_const]; omega
  · refine char_zero hM.ok.g hM.ok.len hH.sb hH.nd hH.rng (χ := fun y => bt os D vs x y) (fun a ha b hb => ?_) hy (fun h => hne (bt_one hM h))
    have ra := hH.rng a ha
    have rb := hH.rng b hb
    show Cg (bt os D vs x (Ar os a b)) (bt os D vs x a * bt os D vs x b)
    rw [bt_comm hM x (Ar os a b), bt_comm hM x a, bt_comm hM x b]
    exact bt_add hM ra.1 ra.2 rb.1 rb.2 x0 x1
theorem mem_ort {x : Int} : x ∈ ortL os D vs H vs.length ↔ (0 ≤ x ∧ x < vs.length) ∧ ∀ y ∈ H, Pr os D vs x y = 0 := by
  unfold ortL ortB
  simp only [List.mem_map, List.mem_filter, List.mem_range, List.all_eq_true, beq_iff_eq]
  constructor
  · rintro ⟨j, ⟨h1, h2⟩, rfl⟩; exact ⟨⟨by omega, by omega⟩, h2⟩
  · rintro ⟨⟨h0, h1⟩, h2⟩; exact ⟨x.toNat, ⟨by omega, by rwa [Int.toNat_of_nonneg h0]⟩, by omega⟩
theorem ort_sb : SbM os vs (ortL os D vs H vs.length) := by
  have hG := hM.ok.g
  have hl := hM.ok.len
  have hge := hG.ge
  refine ⟨⟨(mem_ort hM hH).2 ⟨⟨by omega, by omega⟩, fun y hy => ?_⟩, fun x hx y hy => ?_⟩, ?_, fun x hx => ((mem_ort hM hH).1 hx).1⟩
  · have ry := hH.rng y hy
    unfold Pr
    rw [Ar_comm, Ar_zero hG ry.1 (by omega)]
    have h0 : Vl vs 0 = 0 := hM.zero
    rw [h0]
    simp
  · obtain ⟨rx, px⟩ := (mem_ort hM hH).1 hx
    obtain ⟨ry, py⟩ := (mem_ort hM hH).1 hy
    have ra := Ar_rng hG x y
    refine (mem_ort hM hH).2 ⟨⟨ra.1, by omega⟩, fun z hz => ?_⟩
    have rz := hH.rng z hz
    rw [bilI hM rx.1 rx.2 ry.1 ry.2 rz.1 rz.2, px z hz, py z hz]
    simp
  · unfold ortL
    refine List.Pairwise.map _ (R := (· < ·)) (fun a b h => by simpa using h) ?_
    exact List.Pairwise.filter _ List.pairwise_lt_range
/-- The double sum, over the elements first. -/
theorem sum_ort : Cg (smL (fun x => smL (fun y => bt os D vs x y) H) (els vs.length)) (((ortL os D vs H vs.length).length : Int) * H.length) := by
  have e : Cg (smL (fun x => smL (fun y => bt os D vs x y) H) (els vs.length)) (smL (fun x => if (ortL os D vs H vs.length).contains x = true then (H.length : Int) else 0) (els vs.length)) := by
    refine smL_cg fun x hx => ?_
    obtain ⟨x0, x1⟩ := mem_els.1 hx
    have hp := pair_sum hM hH x0 x1
    by_cases h : ∀ y ∈ H, Pr os D vs x y = 0
    · have hm : (ortL os D vs H vs.length).contains x = true := by
        rw [List.contains_iff_mem]; exact (mem_ort hM hH).2 ⟨⟨x0, x1⟩, h⟩
      rw [if_pos hm]; exact Cg.of_eq (hp.1 h)
    · have hm : ¬ (ortL os D vs H vs.length).contains x = true := by
        rw [List.contains_iff_mem]; exact fun hm => h ((mem_ort hM hH).1 hm).2
      rw [if_neg hm]
      obtain ⟨y, hy⟩ := Classical.not_forall.1 h
      obtain ⟨hy1, hy2⟩ := Classical.not_imp.1 hy
      exact hp.2 ⟨y, hy1, hy2⟩
  refine e.trans (Cg.of_eq ?_)
  rw [smL_if (fun x => (ortL os D vs H vs.length).contains x) (fun _ => (H.length : Int)), smL_const]
  congr 2
  refine List.Perm.length_eq ((List.perm_ext_iff_of_nodup ((els_nodup _).filter _) (ort_sb hM hH).nd).2 fun v => ?_)
  rw [List.mem_filter, List.contains_iff_mem]
  exact ⟨fun h => h.2, fun h => ⟨mem_els.2 ((mem_ort hM hH).1 h).1, h⟩⟩
end
/-- No element but 0 pairs to 0 with all. -/
def Ndg (os : List Int) (D : Int) (vs : List Int) : Prop := ∀ x : Int, 0 ≤ x → x < vs.length → (∀ y : Int, 0 ≤ y → y < vs.length → Pr os D vs x y = 0) → x = 0
theorem Pr_z {os vs : List Int} {D : Int} (hM : IsM os D vs) {y : Int} (y0 : 0 ≤ y) (y1 : y < vs.length) : Pr os D vs 0 y = 0 := by
  have hl := hM.ok.len
  unfold Pr
  rw [Ar_comm, Ar_zero hM.ok.g y0 (by omega)]
  have h0 : Vl vs 0 = 0 := hM.zero
  rw [h0]
  simp
theorem ndg_iff {os vs : List Int} {D : Int} (hM : IsM os D vs) : (radL os D vs vs.length).length = 1 ↔ Ndg os D vs := by
  have hge := hM.ok.g.ge
  have hl := hM.ok.len
  have hmem : ∀ x : Int, x ∈ radL os D vs vs.length ↔ (0 ≤ x ∧ x < vs.length) ∧ ∀ y : Int, 0 ≤ y → y < vs.length → Pr os D vs x y = 0 := fun x => by
    unfold radL radB
    simp only [List.mem_map, List.mem_filter, List.mem_range, List.all_eq_true, beq_iff_eq]
    constructor
    · rintro ⟨j, ⟨h1, h2⟩, rfl⟩
      refine ⟨⟨by omega, by omega⟩, fun y y0 y1 => ?_⟩
      have := h2 y.toNat (by omega)
      rwa [Int.toNat_of_nonneg y0] at this
    · rintro ⟨⟨h0, h1⟩, h2⟩
      refine ⟨x.toNat, ⟨by omega, fun y hy => ?_⟩, by omega⟩
      rw [Int.toNat_of_nonneg h0]
      exact h2 y (by omega) (by omega)
  have hnd : (radL os D vs vs.length).Nodup := by
    unfold radL
    rw [List.nodup_iff_pairwise_ne, List.pairwise_map]
    exact (List.nodup_iff_pairwise_ne.1 (List.nodup_range.filter _)).imp fun h => by omega
  have h0 : (0 : Int) ∈ radL os D vs vs.length := (hmem 0).2 ⟨⟨by omega, by omega⟩, fun y y0 y1 => Pr_z hM y0 y1⟩
  constructor
  · intro h x x0 x1 hx
    obtain ⟨a, ha⟩ := List.length_eq_one_iff.1 h
    have hxm := (hmem x).2 ⟨⟨x0, x1⟩, hx⟩
    rw [ha] at h0 hxm
    rw [List.mem_singleton.1 hxm, List.mem_singleton.1 h0]
  · intro h
    have hp : (radL os D vs vs.length).Perm [0] := (List.perm_ext_iff_of_nodup hnd (by simp)).2 fun v => by
      rw [List.mem_singleton]
      exact ⟨fun hv => h v ((hmem v).1 hv).1.1 ((hmem v).1 hv).1.2 ((hmem v).1 hv).2, fun hv => hv ▸ h0⟩
    simpa using hp.length_eq
/-- For a nondegenerate metric the sizes of a subgroup and of its orthogonal one have the size as product. -/
theorem ort_size {os vs H : List Int} {D : Int} (hM : IsM os D vs) (hH : SbM os vs H) (hn : Ndg os D vs) : (ortL os D vs H vs.length).length * H.length = vs.length := by
  have hge := hM.ok.g.ge
  have hl := hM.ok.len
  have h16 := hM.ok.lt
  have h1 := sum_ort hM hH
  rw [smL_swap] at h1
  have e : Cg (smL (fun y => smL (fun x => bt os D vs x y) (els vs.length)) H) (smL (fun y => if (y == 0) = true then (vs.length : Int) else 0) H) := by
    refine smL_cg fun y hy => ?_
    obtain ⟨y0, y1⟩ := hH.rng y hy
    have hp := pair_sum hM (whole_sb hM) y0 y1
    have e2 : smL (fun x => bt os D vs x y) (els vs.length) = smL (fun x => bt os D vs y x) (els vs.length) := smL_ext fun x _ => bt_comm hM x y
    show Cg (smL (fun x => bt os D vs x y) (els vs.length)) _
    rw [e2]
    by_cases hz : y = 0
    · subst hz
      rw [if_pos (by simp), hp.1 fun x hx => Pr_z hM (mem_els.1 hx).1 (mem_els.1 hx).2, els_length]
      exact Cg.rfl' _
    · rw [if_neg (by simpa using hz)]
      refine hp.2 ?_
      refine Classical.byContradiction fun hno => hz (hn y y0 y1 fun x x0 x1 => ?_)
      refine Classical.byContradiction fun hne => hno ⟨x, mem_els.2 ⟨x0, x1⟩, hne⟩
  have e3 : smL (fun y => if (y == 0) = true then (vs.length : Int) else 0) H = vs.length := by
    rw [smL_if (fun y => y == 0) (fun _ => (vs.length : Int)), smL_const]
    have hp : (H.filter fun y => y == 0).Perm [0] := (List.perm_ext_iff_of_nodup (hH.nd.filter _) (by simp)).2 fun v => by
      rw [List.mem_filter, List.mem_singleton, beq_iff_eq]
      exact ⟨fun h => h.2, fun h => ⟨h ▸ hH.sb.zero, h⟩⟩
    rw [hp.length_eq]
    simp
  rw [e3] at e
  have h2 := h1.symm.trans e
  have l1 : (ortL os D vs H vs.length).length ≤ vs.length := ortL_len _ _ _ _ _
  have l2 : H.length ≤ vs.length := by
    have := hH.nd.length_le_of_subset (l₂ := els vs.length) fun x hx => mem_els.2 (hH.rng x hx)
    rwa [els_length] at this
  have l3 : (ortL os D vs H vs.length).length * H.length ≤ 16 * 16 := Nat.mul_le_mul (by omega) (by omega)
  have l4 : ((ortL os D vs H vs.length).length : Int) * H.length = (((ortL os D vs H vs.length).length * H.length : Nat) : Int) := by simp
  rw [l4] at h2
  have := h2.small (by omega) (by omega) (by omega) (by omega)
  omega
/-- The orthogonal subgroup of the orthogonal one holds the subgroup, and is it where the metric is nondegenerate. -/
theorem ort_ort {os vs H : List Int} {D : Int} (hM : IsM os D vs) (hH : SbM os vs H) : ∀ x ∈ H, x ∈ ortL os D vs (ortL os D vs H vs.length) vs.length := fun x hx =>
  (mem_ort hM (ort_sb hM hH)).2 ⟨hH.rng x hx, fun y hy => by rw [Pr_comm hM]; exact ((mem_ort hM hH).1 hy).2 x hx⟩
theorem ort_back {os vs H : List Int} {D : Int} (hM : IsM os D vs) (hH : SbM os vs H) (hn : Ndg os D vs) : ortL os D vs (ortL os D vs H vs.length) vs.length = H := by
  have h1 := ort_size hM hH hn
  have h2 := ort_size hM (ort_sb hM hH) hn
  have hge := hM.ok.g.ge
  have hl := hM.ok.len
  have hpos : 0 < (ortL os D vs H vs.length).length := List.length_pos_of_mem (ort_sb hM hH).sb.zero
  have hlen : (ortL os D vs (ortL os D vs H vs.length) vs.length).length = H.length := by
    exact Nat.eq_of_mul_eq_mul_left hpos ((Nat.mul_comm _ _).trans (h2.trans h1.symm))
  have hs := ort_ort hM hH
  have hsb := ort_sb hM (ort_sb hM hH)
  refine lt_ext hsb.lt hH.lt fun v => ⟨fun hv => ?_, hs v⟩
  refine Classical.byContradiction fun hn => ?_
  have nd : (v :: H).Nodup := List.nodup_cons.2 ⟨hn, hH.nd⟩
  have := nd.length_le_of_subset (l₂ := ortL os D vs (ortL os D vs H vs.length) vs.length) fun y hy => by
    rcases List.mem_cons.1 hy with rfl | hy
    · exact hv
    · exact hs y hy
  simp at this
  omega
theorem gsum_sm (D : Nat) (k : Int) (vs : List Int) : ((gsum D k vs : Nat) : Int) = smL (fun x => (rp D (Vl vs x * k) : Int)) (els vs.length) := by
  have key : ∀ j, j ≤ vs.length → ((gsum D k (vs.take j) : Nat) : Int) = smL (fun x => (rp D (Vl vs x * k) : Int)) (els j) := by
    intro j
    induction j with
    | zero => intro _; simp [gsum, els, smL]
    | succ j ih =>
      intro hj
      rw [gsum_snoc D k (by omega)]
      have e : els (j + 1) = els j ++ [(j : Int)] := by unfold els; rw [List.range_succ, List.map_append]; rfl
      rw [e, smL_app, Int.natCast_add, ih (by omega)]
      simp [smL, Vl]
  have := key vs.length (Nat.le_refl _)
  rwa [List.take_length] at this
section
variable {os vs : List Int} {D : Int} (hM : IsM os D vs)
include hM
/-- The sum of a nondegenerate metric's values times that of their inverses is the size. -/
theorem gauss_neg (hn : Ndg os D vs) : Cg (((gsum D.toNat 1 vs : Nat) : Int) * ((gsum D.toNat (-1) vs : Nat) : Int)) vs.length := by
  obtain ⟨h1, h2, h3⟩ := ordB_dvd hM.ord
  have hW := whole_sb hM
  rw [gsum_sm, gsum_sm]
  have e0 : smL (fun x => (rp D.toNat (Vl vs x * 1) : Int)) (els vs.length) = smL (th D vs) (els vs.length) := smL_ext fun x _ => by unfold th; rw [Int.mul_one]
  rw [e0]
  obtain ⟨ti, hti⟩ : ∃ ti : Int → Int, (fun x => (rp D.toNat (Vl vs x * -1) : Int)) = ti := ⟨_, rfl⟩
  rw [hti]
  have hinv : ∀ y, Cg (th D vs y * ti y) 1 := fun y => by
    rw [← hti]
    unfold th
    refine (rp_addC h1 h2 _ _).symm.trans (Cg.of_eq ?_)
    rw [show Vl vs y + Vl vs y * -1 = 0 by omega, rp_zero h2]; rfl
  have e1 : smL (th D vs) (els vs.length) * smL ti (els vs.length) = smL (fun y => smL (fun x => th D vs x * ti y) (els vs.length)) (els vs.length) := by
    have : ∀ y, smL (fun x => th D vs x * ti y) (els vs.length) = smL (th D vs) (els vs.length) * ti y := fun y => by
      rw [Int.mul_comm, ← smL_mul]; exact smL_ext fun x _ => Int.mul_comm _ _
    rw [smL_ext fun y _ => this y, smL_mul]
  rw [e1]
  have e2 : Cg (smL (fun y => smL (fun x => th D vs x * ti y) (els vs.length)) (els vs.length)) (smL (fun y => smL (fun z => th D vs z * bt os D vs y z) (els vs.length)) (els vs.length)) := by
    refine smL_cg fun y hy => ?_
    have hs : smL (fun x => th D vs x * ti y) (els vs.length) = smL (fun z => th D vs (Ar os y z) * ti y) (els vs.length) := by
      rw [← smL_perm (shift_perm hM.ok.g hM.ok.len hW.sb hW.nd hW.rng hy), smL_map]
    show Cg (smL (fun x => th D vs x * ti y) (els vs.length)) _
    rw [hs]
    refine smL_cg fun z _ => ?_
    have a := (th_add hM y z).mul (Cg.rfl' (ti y))
    refine a.trans ?_
    have b := ((Cg.rfl' (th D vs z * bt os D vs y z)).mul (hinv y))
    rw [Int.mul_one] at b
    refine (Cg.of_eq ?_).trans b
    grind
  refine e2.trans ?_
  rw [smL_swap]
  have e3 : Cg (smL (fun z => smL (fun y => th D vs z * bt os D vs y z) (els vs.length)) (els vs.length)) (smL (fun z => if (z == 0) = true then (vs.length : Int) else 0) (els vs.length)) := by
    refine smL_cg fun z hz => ?_
    obtain ⟨z0, z1⟩ := mem_els.1 hz
    show Cg (smL (fun y => th D vs z * bt os D vs y z) (els vs.length)) _
    rw [smL_mul, smL_ext fun y _ => bt_comm hM y z]
    have hp := pair_sum hM hW z0 z1
    by_cases h0 : z = 0
    · subst h0
      rw [if_pos (by simp), hp.1 fun x hx => Pr_z hM (mem_els.1 hx).1 (mem_els.1 hx).2, els_length, th_zero hM (show Vl vs 0 = 0 from hM.zero), Int.one_mul]
      exact Cg.rfl' _
    · rw [if_neg (by simpa using h0)]
      have hne : ∃ y ∈ els vs.length, Pr os D vs z y ≠ 0 := by
        refine Classical.byContradiction fun hno => h0 (hn z z0 z1 fun x x0 x1 => ?_)
        exact Classical.byContradiction fun hne => hno ⟨x, mem_els.2 ⟨x0, x1⟩, hne⟩
      have := (Cg.rfl' (th D vs z)).mul (hp.2 hne)
      rwa [Int.mul_zero] at this
  refine e3.trans (Cg.of_eq ?_)
  have hge := hM.ok.g.ge
  have hl := hM.ok.len
  rw [smL_if (fun y => y == 0) (fun _ => (vs.length : Int)), smL_const]
  have hp : ((els vs.length).filter fun y => y == 0).Perm [0] := (List.perm_ext_iff_of_nodup ((els_nodup _).filter _) (by simp)).2 fun v => by
    rw [List.mem_filter, List.mem_singleton, beq_iff_eq, mem_els]
    exact ⟨fun h => h.2, fun h => ⟨by omega, h⟩⟩
  rw [hp.length_eq]
  simp
/-- The sum over all elements is that over the elements orthogonal to an isotropic subgroup. -/
theorem gauss_ort {H : List Int} (hH : SbM os vs H) (hi : ∀ x ∈ H, Vl vs x = 0) : Cg (smL (th D vs) (els vs.length)) (smL (th D vs) (ortL os D vs H vs.length)) := by
  have hW := whole_sb hM
  have h16 := hM.ok.lt
  have l2 : H.length ≤ vs.length := by
    have := hH.nd.length_le_of_subset (l₂ := els vs.length) fun x hx => mem_els.2 (hH.rng x hx)
    rwa [els_length] at this
  have hpos : 0 < H.length := List.length_pos_of_mem hH.sb.zero
  refine Cg.cancel (c := (H.length : Int)) (fun h => ?_) ?_
  · have := h.small (by omega) (by omega) (by omega) (by omega); omega
  have e1 : (H.length : Int) * smL (th D vs) (els vs.length) = smL (fun h => smL (fun x => th D vs (Ar os h x)) (els vs.length)) H := by
    rw [← smL_const]
    refine smL_ext fun h hh => ?_
    rw [← smL_map (th D vs) (Ar os h), smL_perm (shift_perm hM.ok.g hM.ok.len hW.sb hW.nd hW.rng (mem_els.2 (hH.rng h hh)))]
  rw [e1, smL_swap]
  have e2 : Cg (smL (fun x => smL (fun h => th D vs (Ar os h x)) H) (els vs.length)) (smL (fun x => if (ortL os D vs H vs.length).contains x = true then (H.length : Int) * th D vs x else 0) (els vs.length)) := by
    refine smL_cg fun x hx => ?_
    obtain ⟨x0, x1⟩ := mem_els.1 hx
    have hp := pair_sum hM hH x0 x1
    have e3 : Cg (smL (fun h => th D vs (Ar os h x)) H) (th D vs x * smL (fun h => bt os D vs x h) H) := by
      rw [← smL_mul]
      refine smL_cg fun h hh => ?_
      have a := th_add hM h x
      rw [th_zero hM (hi h hh), Int.one_mul, bt_comm hM h x] at a
      exact a
    refine Cg.trans e3 ?_
    by_cases h : ∀ y ∈ H, Pr os D vs x y = 0
    · have hm : (ortL os D vs H vs.length).contains x = true := by
        rw [List.contains_iff_mem]; exact (mem_ort hM hH).2 ⟨⟨x0, x1⟩, h⟩
      rw [if_pos hm, hp.1 h, Int.mul_comm]; exact Cg.rfl' _
    · have hm : ¬ (ortL os D vs H vs.length).contains x = true := by
        rw [List.contains_iff_mem]; exact fun hm => h ((mem_ort hM hH).1 hm).2
      rw [if_neg hm]
      obtain ⟨y, hy⟩ := Classical.not_forall.1 h
      obtain ⟨hy1, hy2⟩ := Classical.not_imp.1 hy
      have := (Cg.rfl' (th D vs x)).mul (hp.2 ⟨y, hy1, hy2⟩)
      rwa [Int.mul_zero] at this
  refine e2.trans (Cg.of_eq ?_)
  rw [smL_if (fun x => (ortL os D vs H vs.length).contains x) (fun x => (H.length : Int) * th D vs x), smL_mul]
  congr 1
  refine smL_perm ((List.perm_ext_iff_of_nodup ((els_nodup _).filter _) (ort_sb hM hH).nd).2 fun v => ?_)
  rw [List.mem_filter, List.contains_iff_mem]
  exact ⟨fun h => h.2, fun h => ⟨mem_els.2 ((mem_ort hM hH).1 h).1, h⟩⟩
end
/-! ### condensations -/
/-- The leaders of a condensation. -/
def ldP (os : List Int) (D : Int) (vs xs : List Int) : List Int := ldL os xs (ortL os D vs xs vs.length) (ortL os D vs xs vs.length).length
theorem smL_flat (f : Int → Int) (g : Int → List Int) (a : List Int) : smL f (a.flatMap g) = smL (fun x => smL f (g x)) a := by
  induction a with
  | nil => rfl
  | cons x r ih => simp only [List.flatMap_cons, smL_app, smL, ih]
section
variable {os vs xs : List Int} {D : Int} (hC : Cs os D vs xs)
include hC
/-- The orthogonal subgroup is the leaders' cosets. -/
theorem cos_perm : ((ldP os D vs xs).flatMap fun l => xs.map (Ar os l)).Perm (ortL os D vs xs vs.length) := by
  obtain ⟨O, hO⟩ : ∃ O, O = ortL os D vs xs vs.length := ⟨_, rfl⟩
  have hl := hC.m.ok.len
  have hL : ldP os D vs xs = O.filter fun x => ldr os xs x == x := by unfold ldP ldL; rw [← hO, List.take_length]
  rw [hL, ← hO]
  have hOn : O.Nodup := by rw [hO]; exact (ortL_lt os vs xs D vs.length).imp fun h => by omega
  have hmL : ∀ l, l ∈ O.filter (fun x => ldr os xs x == x) ↔ l ∈ O ∧ ldr os xs l = l := fun l => by rw [List.mem_filter, beq_iff_eq]
  have hLn : (O.filter fun x => ldr os xs x == x).Nodup := hOn.filter _
  have hR : ∀ {y}, y ∈ O → 0 ≤ y ∧ y < prodL os := fun hy => by have := (hC.memO hO).1 hy; exact ⟨this.1, this.2.1⟩
  refine (List.perm_ext_iff_of_nodup ?_ hOn).2 fun v => ?_
  · rw [List.nodup_iff_pairwise_ne, List.pairwise_flatMap]
    refine ⟨fun l hl => ?_, ?_⟩
    · rw [List.pairwise_map]
      refine (List.nodup_iff_pairwise_ne.1 hC.nodup).imp_of_mem fun {a b} ha hb hab he => hab ?_
      have rl := hR ((hmL l).1 hl).1
      have ra := hC.rng a ha
      have rb := hC.rng b hb
      have h1 : Ar os (Ng os l) (Ar os l a) = Ar os (Ng os l) (Ar os l b) := by rw [he]
      rwa [← Ar_assoc hC.g, ← Ar_assoc hC.g, Ar_comm os (Ng os l) l, Ar_neg hC.g, Ar_comm os 0 a, Ar_comm os 0 b, Ar_zero hC.g ra.1 ra.2, Ar_zero hC.g rb.1 rb.2] at h1
    · refine (List.nodup_iff_pairwise_ne.1 hLn).imp_of_mem fun {a b} ha hb hab x hx y hy he => hab ?_
      obtain ⟨h, hh, rfl⟩ := List.mem_map.1 hx
      obtain ⟨k, hk, rfl⟩ := List.mem_map.1 hy
      have a1 := (hmL a).1 ha
      have b1 := (hmL b).1 hb
      have e1 := hC.coset (hR a1.1).1 (hR a1.1).2 hh
      have e2 := hC.coset (hR b1.1).1 (hR b1.1).2 hk
      rw [he, e2, a1.2, b1.2] at e1
      exact e1.symm
  · rw [List.mem_flatMap]
    constructor
    · rintro ⟨l, hl, hv⟩
      obtain ⟨h, hh, rfl⟩ := List.mem_map.1 hv
      exact hC.addO hO ((hmL l).1 hl).1 (hC.subO hO hh)
    · intro hv
      have rv := hR hv
      have hlv := hC.ldrO hO hv
      have rl := hR hlv
      have hll := hC.ldr_ldr rv.1 rv.2
      obtain ⟨h, hh, e⟩ := hC.same rl.1 rl.2 rv.1 rv.2 hll.symm
      exact ⟨ldr os xs v, (hmL _).2 ⟨hlv, hll⟩, List.mem_map.2 ⟨h, hh, e.symm⟩⟩
theorem cos_size : (ldP os D vs xs).length * xs.length = (ortL os D vs xs vs.length).length := by
  rw [← (cos_perm hC).length_eq]
  generalize ldP os D vs xs = L
  induction L with
  | nil => simp
  | cons l r ih => rw [List.flatMap_cons, List.length_append, List.length_map, ← ih, List.length_cons, Nat.add_mul, Nat.one_mul, Nat.add_comm]
theorem Cs.sbM (hs : xs.Pairwise (· < ·)) : SbM os vs xs := ⟨⟨hC.zero, hC.add⟩, hs, fun x hx => by have := hC.rng x hx; have := hC.m.ok.len; omega⟩
/-- The Gauss sum is the number of elements of the subgroup times that of the condensation. -/
theorem gauss_cond (hs : xs.Pairwise (· < ·)) : Cg (((gsum D.toNat 1 vs : Nat) : Int)) ((xs.length : Int) * ((gsum D.toNat 1 ((ldP os D vs xs).map (Vl vs)) : Nat) : Int)) := by
  have hM := hC.m
  have hH := hC.sbM hs
  have hi := hC.iso
  have e0 : ((gsum D.toNat 1 vs : Nat) : Int) = smL (th D vs) (els vs.length) := by rw [gsum_sm]; exact smL_ext fun x _ => by unfold th; rw [Int.mul_one]
  have e1 : ((gsum D.toNat 1 ((ldP os D vs xs).map (Vl vs)) : Nat) : Int) = smL (th D vs) (ldP os D vs xs) := by
    unfold gsum
    rw [List.map_map]
    generalize ldP os D vs xs = L
    induction L with
    | nil => rfl
    | cons l r ih => simp only [List.map_cons, List.sum_cons, Int.natCast_add, smL, ih]; simp [th]
  rw [e0, e1]
  refine (gauss_ort hM hH hi).trans ?_
  rw [← smL_perm (cos_perm hC), smL_flat, ← smL_mul]
  refine smL_cg fun l hl => ?_
  have hlO : l ∈ ortL os D vs xs vs.length := by
    unfold ldP ldL at hl
    rw [List.take_length] at hl
    exact (List.mem_filter.1 hl).1
  obtain ⟨rl, pl⟩ := (mem_ort hM hH).1 hlO
  show Cg (smL (th D vs) (xs.map (Ar os l))) _
  rw [smL_map, ← smL_const]
  refine smL_cg fun h hh => ?_
  have a := th_add hM l h
  rw [th_zero hM (hi h hh), bt_zero hM (pl h hh), Int.mul_one, Int.mul_one] at a
  exact a
end
end Go.Proofs.Ytnoemhmmaicakaa
