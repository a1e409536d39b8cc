
/- The walk of l12Is on the data of a metric. -/
import Derived.Test.YtlhfjfpgoaiijaaDM9
import Derived.Test.YtlhfjfpgoaiijaaDm0
import Derived.WalkLawsBesides
namespace Go.Proofs.Ytlhfjfpgoaiijaa
open Go Go.RowKit Grp
set_option linter.unusedSimpArgs false
set_option linter.unusedVariables false
set_option maxRecDepth 100000
/-- The twists of a metric. -/
noncomputable def dTL (D : Int) (vs : List Int) (k : Nat) : List Int := (List.range k).map (dT D vs)
theorem dTL_gi {D : Int} {vs : List Int} {k i : Nat} (h : i < k) : gi (dTL D vs k) i = dT D vs i := gi_row h
theorem tmS_cgr {n : Nat} {f f' g g' : Nat → Nat → Int} (hf : ∀ i j, i < n → j < n → f i j = f' i j) (hg : ∀ i j, i < n → j < n → g i j = g' i j) {i j : Nat} (hi : i < n) (hj : j < n) : tmS n f g i j = tmS n f' g' i j := by
  unfold tmS
  rw [sm_eq fun k hk => by rw [hf i k hi hk, hg k j hk hj]]
section
variable {os vs : List Int} {D : Int} (hM : IsM os D vs)
include hM
theorem dS_in (i j : Nat) : InP (dS os D vs i j) := dS_rng hM i j
theorem dTL_in (k : Nat) : ∀ x ∈ dTL D vs k, InP x := by
  intro x hx
  unfold dTL at hx
  obtain ⟨j, _, rfl⟩ := List.mem_map.1 hx
  exact dT_rng hM j
theorem dat_ok : DatOk vs.length (dS os D vs) (fun i => gi (dTL D vs vs.length) i) := by
  have hl := hM.ok.len
  have hg := hM.ok.g.ge
  refine ⟨fun i j _ _ => dS_comm hM i j, fun i hi => dS_zero hM hi, fun i hi => ?_, ?_⟩
  · show gi (dTL D vs vs.length) i ≠ 0
    rw [dTL_gi hi]; exact dT_ne hM
  · show gi (dTL D vs vs.length) 0 = 1
    rw [dTL_gi (by omega)]; exact dT_zero hM
theorem dat_cj (hn : Ndg os D vs) : CjOk vs.length (dS os D vs) (fun i => gi (dTL D vs vs.length) i) vs.length (ngN os) := by
  have hl := hM.ok.len
  have hg := hM.ok.g.ge
  have h16 := hM.ok.lt
  refine ⟨whS_val hM, by omega, by omega, fun i k hi hk => sqS hM hn hi hk, fun i _ => ngN_lt hM i, fun i j hi hj h => ?_, ngN_zero hM, fun i hi => ?_⟩
  · rw [← ngN_ngN hM hi, h, ngN_ngN hM hj]
  · show gi (dTL D vs vs.length) (ngN os i) = gi (dTL D vs vs.length) i
    rw [dTL_gi hi, dTL_gi (ngN_lt hM i), dT_neg hM hi]
theorem dat_cube (hn : Ndg os D vs) (i j : Nat) (hi : i < vs.length) (hj : j < vs.length) :
    tmS vs.length (tmS vs.length (uF (dS os D vs) (fun i => gi (dTL D vs vs.length) i)) (uF (dS os D vs) (fun i => gi (dTL D vs vs.length) i))) (uF (dS os D vs) (fun i => gi (dTL D vs vs.length) i)) i j = gaS vs.length (dS os D vs) (fun i => gi (dTL D vs vs.length) i) * tmS vs.length (dS os D vs) (dS os D vs) i j % 55441 := by
  have hu : ∀ i j, i < vs.length → j < vs.length → uF (dS os D vs) (fun i => gi (dTL D vs vs.length) i) i j = uS os D vs i j := fun i j hi hj => by
    show dS os D vs i j * gi (dTL D vs vs.length) j % 55441 = dS os D vs i j * dT D vs j % 55441
    rw [dTL_gi hj]
  have hg : gaS vs.length (dS os D vs) (fun i => gi (dTL D vs vs.length) i) = gaS vs.length (dS os D vs) (dT D vs) := by
    unfold gaS
    rw [sm_eq (g := fun i => dS os D vs 0 i * dS os D vs 0 i % 55441 * dT D vs i % 55441) fun k hk => by
      show dS os D vs 0 k * dS os D vs 0 k % 55441 * gi (dTL D vs vs.length) k % 55441 = _
      rw [dTL_gi hk]]
  rw [tmS_cgr (fun i j hi hj => tmS_cgr hu hu hi hj) hu hi hj, hg]
  exact cubeS hM hn hi hj
theorem dat_ring (hn : Ndg os D vs) : cub vs.length (nmS vs.length (dS os D vs) (ngN os)) = cub vs.length (grF os) := cub_congr fun x y z hx hy hz => nmS_val hM hn hx hy hz
end
set_option maxHeartbeats 4000000 in
theorem l12Is_yes (w : World) (b off n c : Nat) (b1 o1 c1 : Nat → Nat) (os : List Int) (D : Int) (vs : List Int) (A' : Option Addr) (c' : Nat) (hM : IsM os D vs) (hn : vs.length = n) (hg : Ndg os D vs) (V : Vq w w.heap.size n b off b1 o1 c1 (dS os D vs)) (hT : Sl w w.heap.size A' n c' (dTL D vs n)) (hc : n ≤ c) :
    Calls Try.prog 18 #[.agg #[.slice (some ⟨b, off, none⟩) n c, .slice A' n c']] w (Re w (.bool true)) := by
  subst hn
  have hl := hM.ok.len
  have hge := hM.ok.g.ge
  have h16 := hM.ok.lt
  have hp : 0 < vs.length := by omega
  have HS := hide (fun W (hW : Below w.heap.size w W) => l12Shape_ok W b off vs.length c b1 o1 c1 (dS os D vs) A' c' (dTL D vs vs.length) (V.all hW) ((hT.below hW).more hW.size) h16 hp hc (fun i j _ _ => dS_in hM i j) (dTL_in hM _))
  have HF := hide (fun W (hW : Below w.heap.size w W) => l12Fault_yes W b off vs.length c b1 o1 c1 (dS os D vs) A' c' (dTL D vs vs.length) (V.all hW) ((hT.below hW).more hW.size) h16 hp hc (fun i j _ _ => dS_in hM i j) (dTL_in hM _) (dat_ok hM) vs.length (ngN os) (dat_cj hM hg) (dat_cube hM hg) (by rw [dat_ring hM hg]; exact grp_cb hM) (by rw [dat_ring hM hg]; exact grp_flt hM))
  clear V hT
  go_enter Try.func18, Try.ntmps18
  go_wp2_with fail
  obtain ⟨W, hW⟩ : ∃ W, w.alloc (.cells #[.slice (some ⟨b, off, none⟩) vs.length c, .slice A' vs.length c'] 28) = W := ⟨_, rfl⟩
  have hbW : Below w.heap.size w W := by rw [← hW]; exact (by repeat (first | assumption | exact Below.refl _ _ | apply below_drewN | apply Below.drew | apply Below.alloc | apply Below.setCell | omega | (focus (simp; done)) | (focus (simp; omega))))
  have bW : Blk W w.heap.size 28 #[.slice (some ⟨b, off, none⟩) vs.length c, .slice A' vs.length c'] := by rw [← hW]; exact Blk.new _ _ _
  rw [hW]
  clear hW
  have q0 := bW.cell 0
  have q1 := bW.cell 1
  go_wp2_with fail
  refine (HS.out _ hbW).mono ?_
  rintro e w1 ⟨rfl, hb1⟩
  have b1' := bW.all hb1
  have r0 := b1'.cell 0
  have r1 := b1'.cell 1
  have hb2 := hbW.trans (hb1.mono hbW.size)
  clear q0 q1 bW b1'
  go_wp2_with fail
  refine (HF.out _ hb2).mono ?_
  rintro e w2 ⟨rfl, hb3⟩
  go_wp2_with fail
  go_ret
  exact ⟨rfl, hb2.trans (hb3.mono hb2.size)⟩
set_option maxHeartbeats 4000000 in
theorem l12Is_no (w : World) (b off n c : Nat) (b1 o1 c1 : Nat → Nat) (os : List Int) (D : Int) (vs : List Int) (A' : Option Addr) (c' : Nat) (hM : IsM os D vs) (hn : vs.length = n) (hg : ¬ Ndg os D vs) (V : Vq w w.heap.size n b off b1 o1 c1 (dS os D vs)) (hT : Sl w w.heap.size A' n c' (dTL D vs n)) (hc : n ≤ c) :
    Calls Try.prog 18 #[.agg #[.slice (some ⟨b, off, none⟩) n c, .slice A' n c']] w (Re w (.bool false)) := by
  subst hn
  have hl := hM.ok.len
  have hge := hM.ok.g.ge
  have h16 := hM.ok.lt
  have hp : 0 < vs.length := by omega
  obtain ⟨h00, k0, k1, k2, hk0⟩ := sqS_bad hM hg
  have HS := hide (fun W (hW : Below w.heap.size w W) => l12Shape_ok W b off vs.length c b1 o1 c1 (dS os D vs) A' c' (dTL D vs vs.length) (V.all hW) ((hT.below hW).more hW.size) h16 hp hc (fun i j _ _ => dS_in hM i j) (dTL_in hM _))
  have HF := hide (fun W (hW : Below w.heap.size w W) => l12Fault_no W b off vs.length c b1 o1 c1 (dS os D vs) A' c' (dTL D vs vs.length) (V.all hW) ((hT.below hW).more hW.size) h16 hp hc (fun i j _ _ => dS_in hM i j) (dat_ok hM) vs.length (whS_val hM) (by omega) h00 k0 k1 k2 (by rw [hk0]; omega))
  clear V hT hk0
  go_enter Try.func18, Try.ntmps18
  go_wp2_with fail
  obtain ⟨W, hW⟩ : ∃ W, w.alloc (.cells #[.slice (some ⟨b, off, none⟩) vs.length c, .slice A' vs.length c'] 28) = W := ⟨_, rfl⟩
  have hbW : Below w.heap.size w W := by rw [← hW]; exact (by repeat (first | assumption | exact Below.refl _ _ | apply below_drewN | apply Below.drew | apply Below.alloc | apply Below.setCell | omega | (focus (simp; done)) | (focus (simp; omega))))
  have bW : Blk W w.heap.size 28 #[.slice (some ⟨b, off, none⟩) vs.length c, .slice A' vs.length c'] := by rw [← hW]; exact Blk.new _ _ _
  rw [hW]
  clear hW
  have q0 := bW.cell 0
  have q1 := bW.cell 1
  go_wp2_with fail
  refine (HS.out _ hbW).mono ?_
  rintro e w1 ⟨rfl, hb1⟩
  have b1' := bW.all hb1
  have r0 := b1'.cell 0
  have r1 := b1'.cell 1
  have hb2 := hbW.trans (hb1.mono hbW.size)
  clear q0 q1 bW b1'
  go_wp2_with fail
  refine (HF.out _ hb2).mono ?_
  rintro e w2 ⟨rfl, hb3⟩
  go_wp2_with fail
  go_ret
  exact ⟨rfl, hb2.trans (hb3.mono hb2.size)⟩
end Go.Proofs.Ytlhfjfpgoaiijaa
