
/- The data of a metric, told plainly: S and T are as data have to be exactly if the metric is nondegenerate. No program is walked here. The ring of a group is a ring, told plainly. No program is walked here. -/
import Derived.Test.YtlhfjfpgoaiijaaCma
import Derived.Test.YtlhfjfpgoaiijaaNGM
import Derived.Test.YtlhfjfpgoaiijaaRG
import Derived.Test.YtlhfjfpgoaiijaaNa
import Derived.Test.YtlhfjfpgoaiijaaRS2
namespace Go.Proofs.Ytlhfjfpgoaiijaa
open Go Go.RowKit Grp
set_option linter.unusedSimpArgs false
set_option linter.unusedVariables false
set_option linter.unusedSectionVars false

/-! ### what the reference computes out of square tables -/
def tmS (n : Nat) (f g : Nat → Nat → Int) (i j : Nat) : Int := sm (fun k => f i k * g k j % 55441) n % 55441
def whS (n : Nat) (f : Nat → Nat → Int) : Int := sm (fun i => f 0 i * f 0 i % 55441) n % 55441
def gaS (n : Nat) (f : Nat → Nat → Int) (t : Nat → Int) : Int := sm (fun i => f 0 i * f 0 i % 55441 * t i % 55441) n % 55441
def ivS (a : Int) : Int := (pwr a.toNat 55439 : Int)
def inS (n : Nat) (f : Nat → Nat → Int) (l : Nat) : Int := ivS (f 0 l) * ivS (whS n f) % 55441
def boS (n : Nat) (f : Nat → Nat → Int) (i j l : Nat) : Int := f i l * f j l % 55441 * inS n f l % 55441
def nmS (n : Nat) (f : Nat → Nat → Int) (c : Nat → Nat) (i j k : Nat) : Int := sm (fun l => boS n f i j l * f (c k) l) n % 55441

theorem sm_smL (f : Int → Int) (n : Nat) : sm (fun k => f k) n = smL f (els n) := by
  induction n with
  | zero => rfl
  | succ n ih =>
    have e : els (n + 1) = els n ++ [(n : Int)] := by unfold els; rw [List.range_succ, List.map_append]; rfl
    rw [e, smL_app, ← ih]
    simp [sm, smL]
theorem sm_cg {f g : Nat → Int} {n : Nat} (h : ∀ k, k < n → Cg (f k) (g k)) : Cg (sm f n) (sm g n) := by
  induction n with
  | zero => exact Cg.rfl' _
  | succ n ih => exact (ih fun k hk => h k (by omega)).add (h n (by omega))
theorem sm_eq {f g : Nat → Int} {n : Nat} (h : ∀ k, k < n → f k = g k) : sm f n = sm g n := by
  induction n with
  | zero => rfl
  | succ n ih => simp only [sm]; rw [ih fun k hk => h k (by omega), h n (by omega)]
theorem modS (x : Int) : 0 ≤ x % 55441 ∧ x % 55441 < 55441 := ⟨Int.emod_nonneg _ (by omega), Int.emod_lt_of_pos _ (by omega)⟩

theorem inv_chk : ∀ n : Nat, n ≤ 16 → 1 ≤ n → n * pwr n 55439 % 55441 = 1 := by decide +kernel
/-! ### the numbers of a metric -/
/-- The pairing's number: the root to minus the pairing. -/
noncomputable def dS (os : List Int) (D : Int) (vs : List Int) (x y : Nat) : Int := (rp D.toNat (-(Pr os D vs x y)) : Int)
noncomputable def dT (D : Int) (vs : List Int) (x : Nat) : Int := (rp D.toNat (Vl vs x) : Int)
section
variable {os vs : List Int} {D : Int} (hM : IsM os D vs)
include hM
theorem dS_bt {x y : Nat} (hx : x < vs.length) (hy : y < vs.length) : dS os D vs x y = bt os D (negL D vs) x y := by
  obtain ⟨h1, h2, h3⟩ := ordB_dvd hM.ord
  have hl := hM.ok.len
  unfold dS bt
  congr 1
  refine rp_cg ?_
  rw [h3, Pr_neg hM.ok (by omega) (by omega) (by omega) (by omega), Int.emod_emod_of_dvd _ (Int.dvd_refl D)]
theorem dS_rng (x y : Nat) : 0 ≤ dS os D vs x y ∧ dS os D vs x y < 55441 := by
  have := rp_lt D.toNat (-(Pr os D vs x y)); unfold dS; omega
theorem dT_rng (x : Nat) : 0 ≤ dT D vs x ∧ dT D vs x < 55441 := by
  have := rp_lt D.toNat (Vl vs x); unfold dT; omega
theorem dS_comm (x y : Nat) : dS os D vs x y = dS os D vs y x := by unfold dS; rw [Pr_comm hM]
theorem dS_zero {y : Nat} (hy : y < vs.length) : dS os D vs 0 y = 1 := by
  have h := hM.ok.len
  have hg := hM.ok.g.ge
  obtain ⟨h1, h2, h3⟩ := ordB_dvd hM.ord
  unfold dS
  have := Pr_z hM (y := y) (by omega) (by omega)
  rw [show ((0 : Nat) : Int) = 0 by rfl, this, Int.neg_zero, rp_zero h2]; rfl
theorem dS_inv (x y : Nat) : Cg (dS os D vs x y * bt os D vs x y) 1 := by
  obtain ⟨h1, h2, h3⟩ := ordB_dvd hM.ord
  unfold dS bt
  refine (rp_addC h1 h2 _ _).symm.trans (Cg.of_eq ?_)
  rw [show -(Pr os D vs x y) + Pr os D vs x y = 0 by omega, rp_zero h2]; rfl
theorem dT_zero : dT D vs 0 = 1 := th_zero hM (show Vl vs 0 = 0 from hM.zero)
theorem dT_ne {x : Nat} : dT D vs x ≠ 0 := by
  obtain ⟨h1, h2, h3⟩ := ordB_dvd hM.ord
  intro h
  have h5 := rp_addC h1 h2 (Vl vs x) (-(Vl vs x))
  rw [show Vl vs x + -(Vl vs x) = 0 by omega, rp_zero h2] at h5
  unfold dT at h
  rw [h, Int.zero_mul] at h5
  have := h5.small (by omega) (by omega) (by omega) (by omega)
  omega
/-- The index of a sum, of a negative. -/
def arN (os : List Int) (x y : Nat) : Nat := (Ar os x y).toNat
def ngN (os : List Int) (x : Nat) : Nat := (Ng os x).toNat
theorem arN_c (x y : Nat) : ((arN os x y : Nat) : Int) = Ar os x y := by have := (Ar_rng hM.ok.g x y).1; unfold arN; omega
theorem ngN_c (x : Nat) : ((ngN os x : Nat) : Int) = Ng os x := by have := (Ng_rng hM.ok.g x).1; unfold ngN; omega
theorem arN_lt (x y : Nat) : arN os x y < vs.length := by have := (Ar_rng hM.ok.g x y).2; have := arN_c hM x y; have := hM.ok.len; omega
theorem ngN_lt (x : Nat) : ngN os x < vs.length := by have := (Ng_rng hM.ok.g x).2; have := ngN_c hM x; have := hM.ok.len; omega
theorem arN_comm (x y : Nat) : arN os x y = arN os y x := by unfold arN; rw [Ar_comm]
theorem arN_assoc (x y z : Nat) : arN os (arN os x y) z = arN os x (arN os y z) := by
  have := Ar_assoc hM.ok.g x y z
  have e1 := arN_c hM x y
  have e2 := arN_c hM y z
  have : ((arN os (arN os x y) z : Nat) : Int) = (arN os x (arN os y z) : Nat) := by rw [arN_c hM, e1, this, arN_c hM, e2]
  exact Int.ofNat.inj this
theorem arN_zero {x : Nat} (hx : x < vs.length) : arN os x 0 = x := by
  have hl := hM.ok.len
  have : ((arN os x 0 : Nat) : Int) = x := by rw [arN_c hM]; exact Ar_zero hM.ok.g (by omega) (by omega)
  omega
theorem arN_neg (x : Nat) : arN os x (ngN os x) = 0 := by
  have : ((arN os x (ngN os x) : Nat) : Int) = 0 := by rw [arN_c hM, ngN_c hM]; exact Ar_neg hM.ok.g x
  omega
theorem ngN_unique {x y : Nat} (hy : y < vs.length) (h : arN os x y = 0) : y = ngN os x := by
  have hl := hM.ok.len
  have h1 : Ar os x y = 0 := by rw [← arN_c hM, h]; rfl
  have := Ng_unique hM.ok.g (x := x) (y := y) (by omega) (by omega) h1
  have := ngN_c hM x
  omega
theorem ngN_ngN {x : Nat} (hx : x < vs.length) : ngN os (ngN os x) = x := (ngN_unique hM hx (by rw [arN_comm hM]; exact arN_neg hM x)).symm
theorem ngN_zero : ngN os 0 = 0 := by
  have h := hM.ok.len
  have hg := hM.ok.g.ge
  exact (ngN_unique hM (by omega) (arN_zero hM (by omega))).symm
theorem arN_cancel {x y z : Nat} (hy : y < vs.length) : arN os x y = z ↔ z < vs.length ∧ y = arN os (ngN os x) z := by
  constructor
  · rintro rfl
    refine ⟨arN_lt hM _ _, ?_⟩
    rw [← arN_assoc hM, arN_comm hM (ngN os x), arN_neg hM, arN_comm hM 0, arN_zero hM hy]
  · rintro ⟨hz, rfl⟩
    rw [← arN_assoc hM, arN_neg hM, arN_comm hM 0, arN_zero hM hz]
theorem dT_neg {x : Nat} (hx : x < vs.length) : dT D vs (ngN os x) = dT D vs x := by
  have hl := hM.ok.len
  unfold dT
  rw [ngN_c hM, hM.neg x (by omega)]
theorem dS_add {x y z : Nat} (hx : x < vs.length) (hy : y < vs.length) (hz : z < vs.length) : Cg (dS os D vs (arN os x y) z) (dS os D vs x z * dS os D vs y z) := by
  have hl := negL_len D vs
  have h := bt_add (neg_isM hM) (x := x) (y := y) (z := z) (by omega) (by omega) (by omega) (by omega) (by omega) (by omega)
  rw [dS_bt hM (arN_lt hM x y) hz, dS_bt hM hx hz, dS_bt hM hy hz, arN_c hM]
  exact h
theorem dS_neg {x y : Nat} (hx : x < vs.length) (hy : y < vs.length) : Cg (dS os D vs (ngN os x) y) (bt os D vs x y) := by
  have h1 := dS_add hM hx (ngN_lt hM x) hy
  rw [arN_neg hM, dS_zero hM hy] at h1
  have h2 := dS_inv hM x y
  have h3 := (h1.mul (Cg.rfl' (bt os D vs x y)))
  have h4 : Cg (dS os D vs x y * dS os D vs (ngN os x) y * bt os D vs x y) (dS os D vs (ngN os x) y) := by
    have := h2.mul (Cg.rfl' (dS os D vs (ngN os x) y))
    rw [Int.one_mul] at this
    exact (Cg.of_eq (by grind)).trans this
  rw [Int.one_mul] at h3
  exact (h3.trans h4).symm
/-- The row sums of the pairing's numbers. -/
theorem dS_sum (hn : Ndg os D vs) {x : Nat} (hx : x < vs.length) : Cg (sm (fun k => dS os D vs x k) vs.length) (if x = 0 then (vs.length : Int) else 0) := by
  have hl := negL_len D vs
  have h1 : sm (fun k => dS os D vs x k) vs.length = smL (fun y => bt os D (negL D vs) x y) (els (negL D vs).length) := by
    rw [hl, ← sm_smL]
    exact sm_eq fun k hk => dS_bt hM hx hk
  rw [h1]
  have hp := pair_sum (neg_isM hM) (whole_sb (neg_isM hM)) (x := x) (by omega) (by omega)
  by_cases h0 : x = 0
  · subst h0
    rw [if_pos rfl, hp.1 fun y hy => Pr_z (neg_isM hM) (mem_els.1 hy).1 (mem_els.1 hy).2, els_length, hl]
    exact Cg.rfl' _
  · rw [if_neg h0]
    refine hp.2 (Classical.byContradiction fun hno => h0 ?_)
    have : (x : Int) = 0 := hn x (by omega) (by omega) fun y y0 y1 => by
      have h5 : Pr os D (negL D vs) x y = 0 := Classical.byContradiction fun hne => hno ⟨y, mem_els.2 ⟨y0, by omega⟩, hne⟩
      have hl2 := hM.ok.len
      have hpn := Pr_neg hM.ok (x := x) (y := y) (by omega) (by omega) y0 (by omega)
      have hr := Pr_rng hM.ok x y
      have d1 := hM.ok.d1
      rw [h5] at hpn
      have h7 : (D : Int) ∣ - Pr os D vs x y := Int.dvd_of_emod_eq_zero hpn.symm
      have h8 : (D : Int) ∣ Pr os D vs x y := by have := Int.dvd_neg.2 h7; rwa [Int.neg_neg] at this
      have h9 := Int.emod_eq_zero_of_dvd h8
      rwa [Int.emod_eq_of_lt hr.1 hr.2] at h9
    omega
theorem whS_val : whS vs.length (dS os D vs) = vs.length := by
  have h16 := hM.ok.lt
  unfold whS
  rw [sm_eq (g := fun _ => 1) fun k hk => by rw [dS_zero hM hk]; rfl]
  have : ∀ n : Nat, sm (fun _ => 1) n = n := fun n => by induction n with
    | zero => rfl
    | succ n ih => simp only [sm]; rw [ih]; omega
  rw [this]; omega
theorem sqS (hn : Ndg os D vs) {i j : Nat} (hi : i < vs.length) (hj : j < vs.length) : tmS vs.length (dS os D vs) (dS os D vs) i j = if j = ngN os i then (vs.length : Int) else 0 := by
  have h16 := hM.ok.lt
  have h1 : Cg (sm (fun k => dS os D vs i k * dS os D vs k j % 55441) vs.length) (sm (fun k => dS os D vs (arN os i j) k) vs.length) := sm_cg fun k hk => by
    refine (Cg.mod _).trans ?_
    rw [dS_comm hM k j]
    exact (dS_add hM hi hj hk).symm
  have h2 := h1.trans (dS_sum hM hn (arN_lt hM i j))
  have h3 : (if arN os i j = 0 then (vs.length : Int) else 0) = if j = ngN os i then (vs.length : Int) else 0 := by
    by_cases h : j = ngN os i
    · rw [if_pos h, if_pos (by rw [h]; exact arN_neg hM i)]
    · rw [if_neg h, if_neg fun h' => h (ngN_unique hM hj h')]
  rw [h3] at h2
  unfold tmS
  rw [h2.emod]
  split <;> omega
/-- A degenerate metric: some number of the first row of S squared stands at a place other than 0. -/
theorem sqS_bad (hn : ¬ Ndg os D vs) : tmS vs.length (dS os D vs) (dS os D vs) 0 0 = vs.length ∧ ∃ k, 0 < k ∧ k < vs.length ∧ tmS vs.length (dS os D vs) (dS os D vs) 0 k = vs.length := by
  have h16 := hM.ok.lt
  have hl := hM.ok.len
  have hg := hM.ok.g.ge
  have h1 : ∀ j : Nat, j < vs.length → (∀ y : Nat, y < vs.length → Pr os D vs j y = 0) → tmS vs.length (dS os D vs) (dS os D vs) 0 j = vs.length := fun j hj hp => by
    obtain ⟨a1, a2, a3⟩ := ordB_dvd hM.ord
    unfold tmS
    rw [sm_eq (g := fun k => dS os D vs 0 k * dS os D vs 0 k % 55441) fun k hk => ?_]
    · exact whS_val hM
    · have : dS os D vs k j = 1 := by rw [dS_comm hM]; unfold dS; rw [hp k hk, Int.neg_zero, rp_zero a2]; rfl
      rw [this, dS_zero hM hk]
  refine ⟨h1 0 (by omega) fun y hy => Pr_z hM (by omega) (by omega), Classical.byContradiction fun hno => hn fun x x0 x1 hx => ?_⟩
  obtain ⟨a, rfl⟩ := Int.eq_ofNat_of_zero_le x0
  refine Classical.byContradiction fun hne => hno ⟨a, by omega, by omega, h1 a (by omega) fun y hy => hx y (by omega) (by omega)⟩
/-- The Gauss sum as the reference takes it. -/
theorem gaS_cg : Cg (gaS vs.length (dS os D vs) (dT D vs)) (smL (th D vs) (els vs.length)) := by
  unfold gaS
  refine (Cg.mod _).trans ?_
  rw [← sm_smL]
  refine sm_cg fun k hk => ?_
  rw [dS_zero hM hk]
  refine (Cg.mod _).trans (Cg.of_eq ?_)
  show 1 * 1 % 55441 * dT D vs k = _
  have : (1 * 1 % 55441 : Int) = 1 := by decide
  rw [this, Int.one_mul]
  rfl
/-- S with its columns times T. -/
noncomputable def uS (os : List Int) (D : Int) (vs : List Int) (i j : Nat) : Int := dS os D vs i j * dT D vs j % 55441
noncomputable def tI (D : Int) (vs : List Int) (x : Nat) : Int := (rp D.toNat (-(Vl vs x)) : Int)
theorem tI_inv (x : Nat) : Cg (dT D vs x * tI D vs x) 1 := by
  obtain ⟨h1, h2, h3⟩ := ordB_dvd hM.ord
  unfold dT tI
  refine (rp_addC h1 h2 _ _).symm.trans (Cg.of_eq ?_)
  rw [show Vl vs x + -(Vl vs x) = 0 by omega, rp_zero h2]; rfl
theorem dT_add (x y : Nat) : Cg (dT D vs (arN os x y)) (dT D vs x * dT D vs y * bt os D vs x y) := by
  have h := th_add hM x y
  unfold th at h
  unfold dT
  rw [arN_c hM]
  exact h
theorem sum_tS {z : Nat} (hz : z < vs.length) : Cg (sm (fun k => dT D vs k * dS os D vs z k) vs.length) (tI D vs z * smL (th D vs) (els vs.length)) := by
  have hW := whole_sb hM
  have h0 := Ng_rng hM.ok.g z
  have hl := hM.ok.len
  have e1 : smL (th D vs) (els vs.length) = sm (fun k => th D vs (Ar os (Ng os z) k)) vs.length := by
    rw [sm_smL (fun k => th D vs (Ar os (Ng os z) k)), ← smL_map (th D vs) (Ar os (Ng os z)), smL_perm (shift_perm hM.ok.g hM.ok.len hW.sb hW.nd hW.rng (mem_els.2 ⟨h0.1, by omega⟩))]
  have e2 : Cg (smL (th D vs) (els vs.length)) (dT D vs z * sm (fun k => dT D vs k * dS os D vs z k) vs.length) := by
    rw [e1]
    have e3 : dT D vs z * sm (fun k => dT D vs k * dS os D vs z k) vs.length = sm (fun k => dT D vs z * (dT D vs k * dS os D vs z k)) vs.length := by
      generalize vs.length = n
      induction n with
      | zero => simp [sm]
      | succ n ih => simp only [sm]; rw [Int.mul_add, ih]
    rw [e3]
    refine sm_cg fun k hk => ?_
    have a := dT_add hM (ngN os z) k
    rw [dT_neg hM hz] at a
    have b := dS_neg hM (ngN_lt hM z) hk
    rw [ngN_ngN hM hz] at b
    have c := (Cg.rfl' (dT D vs z * dT D vs k)).mul b
    have d : Cg (th D vs (Ar os (Ng os z) k)) (dT D vs (arN os (ngN os z) k)) := Cg.of_eq (by unfold th dT; rw [arN_c hM, ngN_c hM])
    refine d.trans (a.trans (c.symm.trans (Cg.of_eq ?_)))
    rw [Int.mul_assoc]
  have h3 := (tI_inv hM z).mul (Cg.rfl' (sm (fun k => dT D vs k * dS os D vs z k) vs.length))
  rw [Int.one_mul] at h3
  have h4 := (Cg.rfl' (tI D vs z)).mul e2
  refine h3.symm.trans (Cg.trans (Cg.of_eq ?_) h4.symm)
  grind
theorem uu_cg {i l : Nat} (hi : i < vs.length) (hl : l < vs.length) : Cg (tmS vs.length (uS os D vs) (uS os D vs) i l) (dT D vs l * (tI D vs (arN os i l) * smL (th D vs) (els vs.length))) := by
  unfold tmS
  refine (Cg.mod _).trans (Cg.trans ?_ ((Cg.rfl' (dT D vs l)).mul (sum_tS hM (arN_lt hM i l))))
  have e3 : dT D vs l * sm (fun k => dT D vs k * dS os D vs (arN os i l) k) vs.length = sm (fun k => dT D vs l * (dT D vs k * dS os D vs (arN os i l) k)) vs.length := by
    generalize vs.length = n
    induction n with
    | zero => simp [sm]
    | succ n ih => simp only [sm]; rw [Int.mul_add, ih]
  rw [e3]
  refine sm_cg fun k hk => ?_
  refine (Cg.mod _).trans ?_
  unfold uS
  refine ((Cg.mod _).mul (Cg.mod _)).trans ?_
  have a := dS_add hM hi hl hk
  rw [dS_comm hM k l]
  have b := (Cg.rfl' (dT D vs l * dT D vs k)).mul a
  refine Cg.trans (Cg.of_eq ?_) (b.symm.trans (Cg.of_eq ?_)) <;> grind
theorem cubeS (hn : Ndg os D vs) {i j : Nat} (hi : i < vs.length) (hj : j < vs.length) :
    tmS vs.length (tmS vs.length (uS os D vs) (uS os D vs)) (uS os D vs) i j = gaS vs.length (dS os D vs) (dT D vs) * tmS vs.length (dS os D vs) (dS os D vs) i j % 55441 := by
  obtain ⟨g, hg⟩ : ∃ g, smL (th D vs) (els vs.length) = g := ⟨_, rfl⟩
  have hG := gaS_cg hM
  rw [hg] at hG
  have key : Cg (sm (fun k => tmS vs.length (uS os D vs) (uS os D vs) i k * uS os D vs k j % 55441) vs.length) (g * dT D vs j * tI D vs i * sm (fun l => dS os D vs (arN os i j) l) vs.length) := by
    have e3 : g * dT D vs j * tI D vs i * sm (fun l => dS os D vs (arN os i j) l) vs.length = sm (fun l => g * dT D vs j * tI D vs i * dS os D vs (arN os i j) l) vs.length := by
      generalize vs.length = n
      induction n with
      | zero => simp [sm]
      | succ n ih => simp only [sm]; rw [Int.mul_add, ih]
    rw [e3]
    refine sm_cg fun l hl => ?_
    have a := uu_cg hM hi hl
    rw [hg] at a
    have b : Cg (uS os D vs l j) (dS os D vs j l * dT D vs j) := by unfold uS; rw [dS_comm hM l j]; exact Cg.mod _
    refine (Cg.mod _).trans ((a.mul b).trans ?_)
    -- T l ti(i+l) is ti i times S i l
    have c1 := dT_add hM i l
    have c2 := tI_inv hM (arN os i l)
    have c3 := tI_inv hM i
    have c4 := dS_inv hM i l
    have c5 : Cg (dT D vs l * tI D vs (arN os i l)) (tI D vs i * dS os D vs i l) := by
      have d1 := ((c1.mul (Cg.rfl' (tI D vs (arN os i l)))).symm.trans c2).mul (Cg.rfl' (tI D vs i * dS os D vs i l))
      have d2 := (c3.mul c4).mul (Cg.rfl' (dT D vs l * tI D vs (arN os i l)))
      rw [Int.one_mul] at d1
      rw [show (1 : Int) * 1 = 1 by rfl, Int.one_mul] at d2
      refine d2.symm.trans (Cg.trans (Cg.of_eq ?_) d1)
      grind
    have c6 := dS_add hM hi hj hl
    have e := ((c5.mul (Cg.rfl' (g * dT D vs j * dS os D vs j l))))
    have f := (Cg.rfl' (g * dT D vs j * tI D vs i)).mul c6
    refine Cg.trans (Cg.of_eq ?_) (e.trans (Cg.trans (Cg.of_eq ?_) f.symm)) <;> grind
  have h2 := key.trans ((Cg.rfl' (g * dT D vs j * tI D vs i)).mul (dS_sum hM hn (arN_lt hM i j)))
  have h3 : Cg (g * dT D vs j * tI D vs i * (if arN os i j = 0 then (vs.length : Int) else 0)) (gaS vs.length (dS os D vs) (dT D vs) * tmS vs.length (dS os D vs) (dS os D vs) i j) := by
    rw [sqS hM hn hi hj]
    by_cases h : j = ngN os i
    · rw [if_pos (by rw [h]; exact arN_neg hM i), if_pos h, h, dT_neg hM hi]
      have c3 := tI_inv hM i
      have k := (c3.mul (Cg.rfl' (g * (vs.length : Int))))
      rw [Int.one_mul] at k
      exact Cg.trans (Cg.of_eq (by grind)) (k.trans (hG.symm.mul (Cg.rfl' _)))
    · rw [if_neg (fun h' => h (ngN_unique hM hj h')), if_neg h, Int.mul_zero, Int.mul_zero]
      exact Cg.rfl' _
  unfold tmS at h2 ⊢
  exact (h2.trans h3).emod
/-- The fusion numbers are those of the group. -/
theorem nmS_val (hn : Ndg os D vs) {i j k : Nat} (hi : i < vs.length) (hj : j < vs.length) (hk : k < vs.length) : nmS vs.length (dS os D vs) (ngN os) i j k = if arN os i j = k then 1 else 0 := by
  have h16 := hM.ok.lt
  have hl := hM.ok.len
  have hg := hM.ok.g.ge
  obtain ⟨v, hv⟩ : ∃ v, (pwr vs.length 55439 : Int) = v := ⟨_, rfl⟩
  have hiv : Cg ((vs.length : Int) * v) 1 := by
    have := inv_chk vs.length h16 (by omega)
    rw [← hv]
    unfold Cg
    omega
  have hin : ∀ l, l < vs.length → inS vs.length (dS os D vs) l = v := fun l hl => by
    unfold inS
    rw [whS_val hM, dS_zero hM hl]
    unfold ivS
    rw [Int.toNat_natCast, hv, show (1 : Int).toNat = 1 by rfl, pwr_one]
    have := pwr_lt vs.length 55439
    have : (0 : Int) ≤ v ∧ v < 55441 := by omega
    rw [show ((1 : Nat) : Int) = 1 by rfl, Int.one_mul]
    exact Int.emod_eq_of_lt this.1 this.2
  have h1 : Cg (sm (fun l => boS vs.length (dS os D vs) i j l * dS os D vs (ngN os k) l) vs.length) (v * sm (fun l => dS os D vs (arN os (arN os i j) (ngN os k)) l) vs.length) := by
    have e3 : v * sm (fun l => dS os D vs (arN os (arN os i j) (ngN os k)) l) vs.length = sm (fun l => v * dS os D vs (arN os (arN os i j) (ngN os k)) l) vs.length := by
      generalize vs.length = n
      induction n with
      | zero => simp [sm]
      | succ n ih => simp only [sm]; rw [Int.mul_add, ih]
    rw [e3]
    refine sm_cg fun l hl => ?_
    unfold boS
    rw [hin l hl]
    have a := dS_add hM hi hj hl
    have b := dS_add hM (arN_lt hM i j) (ngN_lt hM k) hl
    refine ((Cg.mod _).mul (Cg.rfl' _)).trans ?_
    refine ((((Cg.mod _).trans a.symm).mul (Cg.rfl' v)).mul (Cg.rfl' _)).trans ?_
    refine Cg.trans (Cg.of_eq ?_) ((Cg.rfl' v).mul b.symm)
    grind
  have h2 := h1.trans ((Cg.rfl' v).mul (dS_sum hM hn (arN_lt hM _ _)))
  have h3 : (arN os (arN os i j) (ngN os k) = 0) ↔ arN os i j = k := by
    constructor
    · intro h
      have h5 := ngN_unique hM (ngN_lt hM k) h
      rw [← ngN_ngN hM (arN_lt hM i j), ← h5, ngN_ngN hM hk]
    · rintro rfl; exact arN_neg hM _
  unfold nmS
  rw [h2.emod]
  by_cases h : arN os i j = k
  · rw [if_pos (h3.2 h), if_pos h]
    have := hiv.emod
    rw [Int.mul_comm]
    exact this
  · rw [if_neg fun h' => h (h3.1 h'), if_neg h, Int.mul_zero]; rfl
end

theorem fs_all {α : Type} {n : Nat} {f : Nat → Option α} (h : ∀ k, k < n → f k = none) : fs n f = none := by
  induction n with
  | zero => rfl
  | succ n ih => exact fs_next (ih fun k hk => h k (by omega)) (h n (by omega))
theorem mat_get {n : Nat} {f : Nat → Nat → Int} {i : Nat} (hi : i < n) : (mat n f)[i]? = some ((List.range n).map (f i)) := by
  unfold mat; simp [hi]
theorem cub_get {n : Nat} {f : Nat → Nat → Nat → Int} {i : Nat} (hi : i < n) : (cub n f)[i]? = some (mat n (f i)) := by
  unfold cub; simp [hi]
theorem t3_cub' {n : Nat} {f : Nat → Nat → Nat → Int} {i j k : Nat} (hi : i < n) (hj : j < n) (hk : k < n) : t3 (cub n f) i j k = f i j k := by
  unfold t3
  rw [getD_of (cub_get hi), getD_of (mat_get hj)]
  simp [gi, List.getD_eq_getElem?_getD, hk]
theorem cub_len (n : Nat) (f : Nat → Nat → Nat → Int) : (cub n f).length = n := by simp [cub]
theorem cub_cb {n : Nat} {f : Nat → Nat → Nat → Int} (h1 : 1 ≤ n) (h2 : n ≤ 16) (hf : ∀ i j k, i < n → j < n → k < n → 0 ≤ f i j k ∧ f i j k ≤ 1000) : IsCb (cub n f) := by
  refine ⟨by rw [cub_len]; exact h1, by rw [cub_len]; exact h2, fun m hm => ?_⟩
  rw [cub_len]
  unfold cub at hm
  obtain ⟨i, hi, rfl⟩ := List.mem_map.1 hm
  refine ⟨by simp [mat], fun r hr => ?_⟩
  unfold mat at hr
  obtain ⟨j, hj, rfl⟩ := List.mem_map.1 hr
  refine ⟨by simp, fun x hx => ?_⟩
  obtain ⟨k, hk, rfl⟩ := List.mem_map.1 hx
  exact hf i j k (List.mem_range.1 hi) (List.mem_range.1 hj) (List.mem_range.1 hk)
theorem duSt_one {f : Nat → Int} {d : Nat} (h : ∀ j, f j = if j = d then 1 else 0) (m : Nat) : duSt f m = some (if d < m then (d : Int) else -1) := by
  induction m with
  | zero => simp [duSt]
  | succ m ih =>
    by_cases hm : m = d
    · subst hm
      rw [if_neg (by omega)] at ih
      rw [duSt_1 ih (by rw [h, if_pos rfl]) (by omega), if_pos (by omega)]
    · rw [duSt_0 ih (by rw [h, if_neg hm])]
      by_cases hd : d < m
      · rw [if_pos hd, if_pos (by omega)]
      · rw [if_neg hd, if_neg (by omega)]
theorem duSt_cg {f g : Nat → Int} {m : Nat} (h : ∀ j, j < m → f j = g j) : duSt f m = duSt g m := by
  induction m with
  | zero => rfl
  | succ m ih =>
    simp only [duSt]
    rw [ih fun j hj => h j (by omega), h m (by omega)]
theorem sm_one {n p : Nat} (f g : Nat → Int) (hp : p < n) (hf : ∀ m, m < n → f m = if m = p then 1 else 0) : sm (fun m => f m * g m) n = g p := by
  have key : ∀ k, k ≤ n → sm (fun m => f m * g m) k = if p < k then g p else 0 := by
    intro k
    induction k with
    | zero => intro _; simp [sm]
    | succ k ih =>
      intro hk
      simp only [sm]
      rw [ih (by omega), hf k (by omega)]
      by_cases h : k = p
      · subst h; rw [if_neg (by omega), if_pos rfl, if_pos (by omega)]; omega
      · rw [if_neg h]
        by_cases h2 : p < k
        · rw [if_pos h2, if_pos (by omega)]; omega
        · rw [if_neg h2, if_neg (by omega)]; omega
  rw [key n (Nat.le_refl _), if_pos hp]
/-- The ring of the group. -/
def grF (os : List Int) (i j k : Nat) : Int := if arN os i j = k then 1 else 0
section
variable {os vs : List Int} {D : Int} (hM : IsM os D vs)
include hM
theorem grp_cb : IsCb (cub vs.length (grF os)) := by
  have h16 := hM.ok.lt
  have hl := hM.ok.len
  have hg := hM.ok.g.ge
  exact cub_cb (by omega) h16 fun i j k _ _ _ => by unfold grF; split <;> omega
theorem grp_du {i : Nat} (hi : i < vs.length) : du (cub vs.length (grF os)) i = ngN os i := by
  have hl := hM.ok.len
  have hg := hM.ok.g.ge
  unfold du
  rw [cub_len]
  unfold duF
  have e : duSt (fun j => t3 (cub vs.length (grF os)) i j 0) vs.length = duSt (fun j => if j = ngN os i then 1 else 0) vs.length := duSt_cg fun j hj => by
    rw [t3_cub' hi hj (by omega)]
    unfold grF
    by_cases h : j = ngN os i
    · rw [if_pos h, if_pos (by rw [h]; exact arN_neg hM i)]
    · rw [if_neg h, if_neg fun h' => h (ngN_unique hM hj h')]
  rw [e, duSt_one (fun j => rfl), if_pos (ngN_lt hM i)]
  rfl
theorem grp_flt : flt (cub vs.length (grF os)) = none := by
  have hl := hM.ok.len
  have hg := hM.ok.g.ge
  obtain ⟨N, hN⟩ : ∃ N, vs.length = N := ⟨_, rfl⟩
  have hlt := fun x y => arN_lt hM x y
  have hnl := fun x => ngN_lt hM x
  have hz : ∀ x, x < vs.length → arN os x 0 = x := fun x hx => arN_zero hM hx
  have hn1 : 0 < vs.length := by omega
  have u0 : unitF (cub vs.length (grF os)) = none := by
    unfold unitF
    rw [cub_len]
    refine fs_all fun i hi => fs_all fun k hk => unitAt_no ?_ ?_
    · rw [t3_cub' hn1 hi hk]; unfold grF dl; rw [arN_comm hM, hz i hi]
    · rw [t3_cub' hi hn1 hk]; unfold grF dl; rw [hz i hi]
  have u1 : dfF (cub vs.length (grF os)) = none := by
    unfold dfF
    rw [cub_len]
    refine fs_all fun i hi => dfAt_no ?_
    unfold dfB
    rw [grp_du hM hi, Int.toNat_natCast, grp_du hM (hnl i), ngN_ngN hM hi, decide_eq_false_iff_not]
    omega
  have u2 : turnF (cub vs.length (grF os)) = none := by
    unfold turnF
    rw [cub_len]
    refine fs_all fun i hi => fs_all fun j hj => fs_all fun k hk => turnAt_no ?_ ?_
    · rw [grp_du hM hi, Int.toNat_natCast, t3_cub' hi hj hk, t3_cub' (hnl i) hk hj]
      unfold grF
      by_cases h : arN os i j = k
      · rw [if_pos h, if_pos ((arN_cancel hM hj).1 h).2.symm]
      · rw [if_neg h, if_neg fun h' => h ((arN_cancel hM hj).2 ⟨hk, h'.symm⟩)]
    · rw [grp_du hM hj, Int.toNat_natCast, t3_cub' hi hj hk, t3_cub' hk (hnl j) hi]
      unfold grF
      by_cases h : arN os i j = k
      · rw [if_pos h, if_pos]
        rw [← h, arN_assoc hM, arN_neg hM, hz i hi]
      · rw [if_neg h, if_neg]
        intro h'
        apply h
        rw [← h', arN_assoc hM, arN_comm hM (ngN os j), arN_neg hM, hz k hk]
  have u3 : brF (cub vs.length (grF os)) = none := by
    unfold brF
    rw [cub_len]
    refine fs_all fun i hi => fs_all fun j hj => fs_all fun k hk => fs_all fun l hl' => brAt_no ?_
    rw [cub_len]
    unfold brL brR
    have e1 : sm (fun m => t3 (cub vs.length (grF os)) i j m * t3 (cub vs.length (grF os)) m k l) vs.length = grF os (arN os i j) k l := by
      rw [sm_one (n := vs.length) (p := arN os i j) (fun m => t3 (cub vs.length (grF os)) i j m) (fun m => t3 (cub vs.length (grF os)) m k l) (hlt i j) fun m hm => by
        rw [t3_cub' hi hj hm]; unfold grF
        by_cases h : m = arN os i j
        · rw [if_pos h, if_pos h.symm]
        · rw [if_neg h, if_neg fun h' => h h'.symm]]
      exact t3_cub' (hlt i j) hk hl'
    have e2 : sm (fun m => t3 (cub vs.length (grF os)) j k m * t3 (cub vs.length (grF os)) i m l) vs.length = grF os i (arN os j k) l := by
      rw [sm_one (n := vs.length) (p := arN os j k) (fun m => t3 (cub vs.length (grF os)) j k m) (fun m => t3 (cub vs.length (grF os)) i m l) (hlt j k) fun m hm => by
        rw [t3_cub' hj hk hm]; unfold grF
        by_cases h : m = arN os j k
        · rw [if_pos h, if_pos h.symm]
        · rw [if_neg h, if_neg fun h' => h h'.symm]]
      exact t3_cub' hi (hlt j k) hl'
    rw [e1, e2]
    unfold grF
    rw [arN_assoc hM]
  exact flt_br u0 u1 u2 u3
end
end Go.Proofs.Ytlhfjfpgoaiijaa
