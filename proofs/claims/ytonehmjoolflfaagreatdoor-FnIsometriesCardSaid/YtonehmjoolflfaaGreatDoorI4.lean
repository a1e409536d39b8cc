
/- The walk of Metric.isBilinear. -/
import Derived.Test.YtonehmjoolflfaaGreatDoorIa
import Derived.Test.YtonehmjoolflfaaGreatDoorS6a
import Derived.WalkLawsBesides
namespace Go.Proofs.YtonehmjoolflfaaGreatDoor
open Go Go.RowKit Grp
set_option linter.unusedSimpArgs false
set_option linter.unusedVariables false

/-- The law of a metric. -/
def BilM (os : List Int) (D : Int) (vs : List Int) : Prop :=
  (∀ x : Nat, (x : Int) < prodL os → Vl vs (Ng os x) = Vl vs x) ∧
  ∀ x y z : Nat, (x : Int) < prodL os → (y : Int) < prodL os → (z : Int) < prodL os → Pr os D vs (Ar os x y) z = (Pr os D vs x z + Pr os D vs y z) % D
open Classical in
noncomputable def bilB (os : List Int) (D : Int) (vs : List Int) : Bool := decide (BilM os D vs)
theorem bilB_t {os vs : List Int} {D : Int} (h : BilM os D vs) : bilB os D vs = true := by simp [bilB, h]
theorem bilB_f {os vs : List Int} {D : Int} (h : ¬ BilM os D vs) : bilB os D vs = false := by simp [bilB, h]
set_option maxHeartbeats 4000000 in
theorem isBilinear_any (w : World) (A : Option Addr) (n c : Nat) (os : List Int) (D : Int) (A' : Option Addr) (n' c' : Nat) (vs : List Int)
    (h : Sl w w.heap.size A n c os) (h' : Sl w w.heap.size A' n' c' vs) (hok : OkM os D vs) :
    Calls Tryz.prog 58 #[.agg #[.slice A n c, .int .i64 D, .slice A' n' c']] w (Re w (.bool (bilB os D vs))) := by
  obtain rfl := h'.len
  have hG := hok.g
  have hL := hide hok.len
  have hd1 := hok.d1
  have hd2 := hok.d2
  have hn16 := hok.lt
  have hpos : 1 ≤ vs.length := by have := hL.out; have := hG.ge; omega
  obtain ⟨b, off, rfl, hb, hc⟩ := h'.at_ (by omega)
  go_enter Tryz.func58, Tryz.ntmps58
  go_wp2_with fail
  obtain ⟨W, hW⟩ : ∃ W, w.alloc (.cells #[.slice A n c, .int .i64 D, .slice (some ⟨b, off, none⟩) vs.length c'] 26) = W := ⟨_, rfl⟩
  have hbW : Below w.heap.size w W := by rw [← hW]; exact (by repeat (first | assumption | exact Below.refl _ _ | apply below_drewN | apply Below.drew | apply Below.alloc | apply Below.setCell | omega | (focus (simp; done)) | (focus (simp; omega))))
  have hszW : w.heap.size < W.heap.size := by rw [← hW]; simp
  have q0 : W.cell? ⟨w.heap.size, 0, none⟩ = some (.slice A n c) := by rw [← hW]; exact (Blk.new _ _ _).cell 0
  have q1 : W.cell? ⟨w.heap.size, 1, none⟩ = some (.int .i64 D) := by rw [← hW]; exact (Blk.new _ _ _).cell 1
  have q2 : W.cell? ⟨w.heap.size, 2, none⟩ = some (.slice (some ⟨b, off, none⟩) vs.length c') := by rw [← hW]; exact (Blk.new _ _ _).cell 2
  rw [hW]
  clear hW
  have hs := h.below hbW
  have hs' := h'.below hbW
  have hbG : b < W.heap.size := by omega
  have hsl : ∀ wd, Below W.heap.size W wd → Sl wd wd.heap.size A n c os := fun wd h => (hs.below (h.mono (Nat.le_of_lt hszW))).more (by have := h.size; omega)
  have hsv : ∀ wd, Below W.heap.size W wd → Sl wd wd.heap.size (some ⟨b, off, none⟩) vs.length c' vs := fun wd h => (hs'.below (h.mono (Nat.le_of_lt hszW))).more (by have := h.size; omega)
  have hBe : Below W.heap.size W W := Below.refl _ _
  go_wp2_with fail
  refine (size_any _ _ _ _ _ _).mono ?_
  rintro e w2 ⟨rfl, hb2⟩
  replace hBe := hBe.trans (hb2.mono hBe.size)
  clear hb2
  go_wp2_with fail
  go_loopw [8] (fun i wr => ∃ k : Nat, k ≤ vs.length ∧ i = .int .i64 k ∧ (∀ x : Nat, x < k → Vl vs (Ng os x) = Vl vs x) ∧ (∀ x y z : Nat, x < k → y < vs.length → z < vs.length → Pr os D vs (Ar os x y) z = (Pr os D vs x z + Pr os D vs y z) % D) ∧ Below W.heap.size W wr) (fun i _ => vs.length - (intOf i).toNat)
  case atStart => exact ⟨0, by omega, rfl, fun x hx => absurd hx (by omega), fun x y z hx => absurd hx (by omega), hBe⟩
  case round =>
    clear hBe
    obtain ⟨x, hx, rfl, hpren, hpre, hBe⟩ := hrel
    have hX := hide hpre
    have hXN := hide hpren
    clear hpre hpren
    by_cases hlx : x < vs.length
    · have hx16 : (x : Int) < prodL os := by have := hL.out; omega
      obtain ⟨z, ez⟩ : ∃ z : Nat, Ng os x = (z : Int) := ⟨(Ng os x).toNat, by have := Ng_rng hG x; omega⟩
      have hzl : z < vs.length := by have := Ng_rng hG x; have := hL.out; omega
      have c1 := (hbW.cell (p := ⟨b, off + x, none⟩) hb).trans (hc x hlx)
      have c2 := (hbW.cell (p := ⟨b, off + z, none⟩) hb).trans (hc z hzl)
      have hV : Vl vs (Ng os x) = gi vs z ∧ Vl vs x = gi vs x := by rw [ez]; exact ⟨rfl, rfl⟩
      obtain ⟨vk, ek⟩ : ∃ v, gi vs x = v := ⟨_, rfl⟩
      obtain ⟨vz, ez'⟩ : ∃ v, gi vs z = v := ⟨_, rfl⟩
      rw [ek] at c1 hV
      rw [ez'] at c2 hV
      have hVV := hide hV
      clear ek ez' hV
      by_cases hv : vk = vz
      case neg =>
        have hF := hide (bilB_f (os := os) (vs := vs) (D := D) fun hm => hv (by have := hm.1 x hx16; rw [hVV.out.1, hVV.out.2] at this; exact this.symm))
        have hvb : (vz != vk) = true := by simpa using fun e => hv e.symm
        clear hv
        go_wp2_with fail
        refine wp_region_be [0, 1, 2, 3, 7, 8, 9, 10, 11, 4, 5, 6, 12] 13 W.heap.size W (by kernel_rfl) (by kernel_rfl) (by kernel_rfl) (fun _ _ _ _ _ h => h) hBe (fun wd hBe => ?_)
        repeat (first | (apply ord_tk rfl (by rfl) (by rfl) (by rfl); (focus (intro wx hSw; have r0 := (hSw.cell (p := ⟨w.heap.size, 0, none⟩) hszW).trans q0; have r1 := (hSw.cell (p := ⟨w.heap.size, 1, none⟩) hszW).trans q1; have r2 := (hSw.cell (p := ⟨w.heap.size, 2, none⟩) hszW).trans q2; have r3 := (hSw.cell (p := ⟨b, off + x, none⟩) hbG).trans c1; have r4 := (hSw.cell (p := ⟨b, off + z, none⟩) hbG).trans c2; go_simp; (try with_reducible rfl))); (try simp only [Act.put, List.setIfInBounds_toArray, List.set_cons_zero, List.set_cons_succ])) | (apply ord_skip rfl (by rfl) (by rfl) (fun _ => hBe); (try simp only [Act.put, List.setIfInBounds_toArray, List.set_cons_zero, List.set_cons_succ])))
        refine ord_do rfl (by rfl) (by rfl) (fun K hK => ?_)
        go_simp
        refine (minus_any _ _ _ _ _ _ _ _ (hsl _ hBe) hG (by omega) (by omega) _ _ _ rfl _ rfl).mono ?_
        rintro e wd' ⟨rfl, hwd⟩
        replace hBe := hBe.trans (hwd.mono hBe.size)
        clear hwd
        refine hK.out _ _ (fun _ => hBe) ?_
        (try simp only [Act.put, List.setIfInBounds_toArray, List.set_cons_zero, List.set_cons_succ])
        clear hK K
        rw [ez]
        repeat (first | (apply ord_tk rfl (by rfl) (by rfl) (by rfl); (focus (intro wx hSw; have r0 := (hSw.cell (p := ⟨w.heap.size, 0, none⟩) hszW).trans q0; have r1 := (hSw.cell (p := ⟨w.heap.size, 1, none⟩) hszW).trans q1; have r2 := (hSw.cell (p := ⟨w.heap.size, 2, none⟩) hszW).trans q2; have r3 := (hSw.cell (p := ⟨b, off + x, none⟩) hbG).trans c1; have r4 := (hSw.cell (p := ⟨b, off + z, none⟩) hbG).trans c2; go_simp; (try with_reducible rfl))); (try simp only [Act.put, List.setIfInBounds_toArray, List.set_cons_zero, List.set_cons_succ])) | (apply ord_skip rfl (by rfl) (by rfl) (fun _ => hBe); (try simp only [Act.put, List.setIfInBounds_toArray, List.set_cons_zero, List.set_cons_succ])))
        refine ord_nil ?_
        go_wp2
        go_ret
        exact ⟨by rw [hF.out]; rfl, hbW.trans (hBe.mono (Nat.le_of_lt hszW))⟩
      subst hv
      have hXN' : ∀ j : Nat, j < x + 1 → Vl vs (Ng os j) = Vl vs j := fun j hj => by
        rcases Nat.lt_succ_iff_lt_or_eq.1 hj with h | rfl
        · exact hXN.out j h
        · rw [hVV.out.1, hVV.out.2]
      have hXN2 := hide hXN'
      clear hXN'
      go_wp2_with fail
      refine wp_region_be [0, 1, 2, 3, 7, 8, 9, 10, 11, 4, 5, 6, 12] 13 W.heap.size W (by kernel_rfl) (by kernel_rfl) (by kernel_rfl) (fun _ _ _ _ _ h => h) hBe (fun wd hBe => ?_)
      repeat (first | (apply ord_tk rfl (by rfl) (by rfl) (by rfl); (focus (intro wx hSw; have r0 := (hSw.cell (p := ⟨w.heap.size, 0, none⟩) hszW).trans q0; have r1 := (hSw.cell (p := ⟨w.heap.size, 1, none⟩) hszW).trans q1; have r2 := (hSw.cell (p := ⟨w.heap.size, 2, none⟩) hszW).trans q2; have r3 := (hSw.cell (p := ⟨b, off + x, none⟩) hbG).trans c1; have r4 := (hSw.cell (p := ⟨b, off + z, none⟩) hbG).trans c2; go_simp; (try with_reducible rfl))); (try simp only [Act.put, List.setIfInBounds_toArray, List.set_cons_zero, List.set_cons_succ])) | (apply ord_skip rfl (by rfl) (by rfl) (fun _ => hBe); (try simp only [Act.put, List.setIfInBounds_toArray, List.set_cons_zero, List.set_cons_succ])))
      refine ord_do rfl (by rfl) (by rfl) (fun K hK => ?_)
      go_simp
      refine (minus_any _ _ _ _ _ _ _ _ (hsl _ hBe) hG (by omega) (by omega) _ _ _ rfl _ rfl).mono ?_
      rintro e wd' ⟨rfl, hwd⟩
      replace hBe := hBe.trans (hwd.mono hBe.size)
      clear hwd
      refine hK.out _ _ (fun _ => hBe) ?_
      (try simp only [Act.put, List.setIfInBounds_toArray, List.set_cons_zero, List.set_cons_succ])
      clear hK K
      rw [ez]
      repeat (first | (apply ord_tk rfl (by rfl) (by rfl) (by rfl); (focus (intro wx hSw; have r0 := (hSw.cell (p := ⟨w.heap.size, 0, none⟩) hszW).trans q0; have r1 := (hSw.cell (p := ⟨w.heap.size, 1, none⟩) hszW).trans q1; have r2 := (hSw.cell (p := ⟨w.heap.size, 2, none⟩) hszW).trans q2; have r3 := (hSw.cell (p := ⟨b, off + x, none⟩) hbG).trans c1; have r4 := (hSw.cell (p := ⟨b, off + z, none⟩) hbG).trans c2; go_simp; (try with_reducible rfl))); (try simp only [Act.put, List.setIfInBounds_toArray, List.set_cons_zero, List.set_cons_succ])) | (apply ord_skip rfl (by rfl) (by rfl) (fun _ => hBe); (try simp only [Act.put, List.setIfInBounds_toArray, List.set_cons_zero, List.set_cons_succ])))
      refine ord_nil ?_
      clear c1 c2
      have r0 := (hBe.cell (p := ⟨w.heap.size, 0, none⟩) hszW).trans q0
      have r1 := (hBe.cell (p := ⟨w.heap.size, 1, none⟩) hszW).trans q1
      have r2 := (hBe.cell (p := ⟨w.heap.size, 2, none⟩) hszW).trans q2
      go_wp2_with fail
      clear r0 r1 r2
      refine (size_any _ _ _ _ _ _).mono ?_
      rintro e w2 ⟨rfl, hb2⟩
      replace hBe := hBe.trans (hb2.mono hBe.size)
      clear hb2
      go_wp2_with fail
      go_loopw [26] (fun i wr => ∃ k : Nat, k ≤ vs.length ∧ i = .int .i64 k ∧ (∀ y z : Nat, y < k → z < vs.length → Pr os D vs (Ar os x y) z = (Pr os D vs x z + Pr os D vs y z) % D) ∧ Below W.heap.size W wr) (fun i _ => vs.length - (intOf i).toNat)
      case atStart => exact ⟨0, by omega, rfl, fun y z hy => absurd hy (by omega), hBe⟩
      case round =>
        clear hBe
        obtain ⟨y, hy, rfl, hpre, hBe⟩ := hrel
        have hY := hide hpre
        clear hpre
        by_cases hly : y < vs.length
        · have hy16 : (y : Int) < prodL os := by have := hL.out; omega
          obtain ⟨s, es⟩ : ∃ s : Nat, Ar os x y = (s : Int) := ⟨(Ar os x y).toNat, by have := Ar_rng hG x y; omega⟩
          have hs16 : (s : Int) < prodL os := by have := Ar_rng hG x y; omega
          have r0 := (hBe.cell (p := ⟨w.heap.size, 0, none⟩) hszW).trans q0
          have r1 := (hBe.cell (p := ⟨w.heap.size, 1, none⟩) hszW).trans q1
          have r2 := (hBe.cell (p := ⟨w.heap.size, 2, none⟩) hszW).trans q2
          go_wp2_with fail
          clear r0 r1 r2
          refine (size_any _ _ _ _ _ _).mono ?_
          rintro e w2 ⟨rfl, hb2⟩
          replace hBe := hBe.trans (hb2.mono hBe.size)
          clear hb2
          go_wp2_with fail
          go_loopw [31] (fun i wr => ∃ k : Nat, k ≤ vs.length ∧ i = .int .i64 k ∧ (∀ z : Nat, z < k → Pr os D vs (Ar os x y) z = (Pr os D vs x z + Pr os D vs y z) % D) ∧ Below W.heap.size W wr) (fun i _ => vs.length - (intOf i).toNat)
          case atStart => exact ⟨0, by omega, rfl, fun z hz => absurd hz (by omega), hBe⟩
          case round =>
            clear hBe
            obtain ⟨z, hz', rfl, hpre, hBe⟩ := hrel
            have hZ := hide hpre
            clear hpre
            by_cases hlz : z < vs.length
            · have hz16 : (z : Int) < prodL os := by have := hL.out; omega
              obtain ⟨p1, ep1⟩ : ∃ p, Pr os D vs x z = p := ⟨_, rfl⟩
              obtain ⟨p2, ep2⟩ : ∃ p, Pr os D vs y z = p := ⟨_, rfl⟩
              obtain ⟨p3, ep3⟩ : ∃ p, Pr os D vs s z = p := ⟨_, rfl⟩
              have b1 := Pr_rng hok x z
              have b2 := Pr_rng hok y z
              have b3 := Pr_rng hok s z
              rw [ep1] at b1
              rw [ep2] at b2
              rw [ep3] at b3
              have u1 : IntKind.i64.wrap (p1 + p2) = p1 + p2 := wrap_in (by omega) (by omega)
              by_cases hv : p3 = (p1 + p2) % D
              · have hvb : (p3 != (p1 + p2) % D) = false := by simpa using hv
                have hv' := hide hv
                clear hv
                go_wp2_with fail
                refine wp_region_be [0, 1, 2, 3, 5, 7, 8, 9, 10, 12, 13, 14, 4, 6, 11, 15, 16, 17, 18] 19 W.heap.size W (by kernel_rfl) (by kernel_rfl) (by kernel_rfl) (fun _ _ _ _ _ h => h) hBe (fun wd hBe => ?_)
                repeat (first | (apply ord_tk rfl (by rfl) (by rfl) (by rfl); (focus (intro wx hSw; have r0 := (hSw.cell (p := ⟨w.heap.size, 0, none⟩) hszW).trans q0; have r1 := (hSw.cell (p := ⟨w.heap.size, 1, none⟩) hszW).trans q1; have r2 := (hSw.cell (p := ⟨w.heap.size, 2, none⟩) hszW).trans q2; go_simp; (try with_reducible rfl))); (try simp only [Act.put, List.setIfInBounds_toArray, List.set_cons_zero, List.set_cons_succ])) | (apply ord_skip rfl (by rfl) (by rfl) (fun _ => hBe); (try simp only [Act.put, List.setIfInBounds_toArray, List.set_cons_zero, List.set_cons_succ])))
                refine ord_do rfl (by rfl) (by rfl) (fun K hK => ?_)
                go_simp
                refine (plus_any _ _ _ _ _ _ _ _ _ (hsl _ hBe) hG (by omega) (by omega) (by omega) (by omega)).mono ?_
                rintro e wd' ⟨rfl, hwd⟩
                replace hBe := hBe.trans (hwd.mono hBe.size)
                clear hwd
                refine hK.out _ _ (fun _ => hBe) ?_
                (try simp only [Act.put, List.setIfInBounds_toArray, List.set_cons_zero, List.set_cons_succ])
                clear hK K
                rw [es]
                repeat (first | (apply ord_tk rfl (by rfl) (by rfl) (by rfl); (focus (intro wx hSw; have r0 := (hSw.cell (p := ⟨w.heap.size, 0, none⟩) hszW).trans q0; have r1 := (hSw.cell (p := ⟨w.heap.size, 1, none⟩) hszW).trans q1; have r2 := (hSw.cell (p := ⟨w.heap.size, 2, none⟩) hszW).trans q2; go_simp; (try with_reducible rfl))); (try simp only [Act.put, List.setIfInBounds_toArray, List.set_cons_zero, List.set_cons_succ])) | (apply ord_skip rfl (by rfl) (by rfl) (fun _ => hBe); (try simp only [Act.put, List.setIfInBounds_toArray, List.set_cons_zero, List.set_cons_succ])))
                refine ord_do rfl (by rfl) (by rfl) (fun K hK => ?_)
                go_simp
                refine (pair_any _ _ _ _ _ _ _ _ _ _ _ _ (hsl _ hBe) (hsv _ hBe) hok hs16 hz16).mono ?_
                rintro e wd' ⟨rfl, hwd⟩
                replace hBe := hBe.trans (hwd.mono hBe.size)
                clear hwd
                refine hK.out _ _ (fun _ => hBe) ?_
                (try simp only [Act.put, List.setIfInBounds_toArray, List.set_cons_zero, List.set_cons_succ])
                clear hK K
                rw [ep3]
                repeat (first | (apply ord_tk rfl (by rfl) (by rfl) (by rfl); (focus (intro wx hSw; have r0 := (hSw.cell (p := ⟨w.heap.size, 0, none⟩) hszW).trans q0; have r1 := (hSw.cell (p := ⟨w.heap.size, 1, none⟩) hszW).trans q1; have r2 := (hSw.cell (p := ⟨w.heap.size, 2, none⟩) hszW).trans q2; go_simp; (try with_reducible rfl))); (try simp only [Act.put, List.setIfInBounds_toArray, List.set_cons_zero, List.set_cons_succ])) | (apply ord_skip rfl (by rfl) (by rfl) (fun _ => hBe); (try simp only [Act.put, List.setIfInBounds_toArray, List.set_cons_zero, List.set_cons_succ])))
                refine ord_do rfl (by rfl) (by rfl) (fun K hK => ?_)
                go_simp
                refine (pair_any _ _ _ _ _ _ _ _ _ _ _ _ (hsl _ hBe) (hsv _ hBe) hok hx16 hz16).mono ?_
                rintro e wd' ⟨rfl, hwd⟩
                replace hBe := hBe.trans (hwd.mono hBe.size)
                clear hwd
                refine hK.out _ _ (fun _ => hBe) ?_
                (try simp only [Act.put, List.setIfInBounds_toArray, List.set_cons_zero, List.set_cons_succ])
                clear hK K
                rw [ep1]
                repeat (first | (apply ord_tk rfl (by rfl) (by rfl) (by rfl); (focus (intro wx hSw; have r0 := (hSw.cell (p := ⟨w.heap.size, 0, none⟩) hszW).trans q0; have r1 := (hSw.cell (p := ⟨w.heap.size, 1, none⟩) hszW).trans q1; have r2 := (hSw.cell (p := ⟨w.heap.size, 2, none⟩) hszW).trans q2; go_simp; (try with_reducible rfl))); (try simp only [Act.put, List.setIfInBounds_toArray, List.set_cons_zero, List.set_cons_succ])) | (apply ord_skip rfl (by rfl) (by rfl) (fun _ => hBe); (try simp only [Act.put, List.setIfInBounds_toArray, List.set_cons_zero, List.set_cons_succ])))
                refine ord_do rfl (by rfl) (by rfl) (fun K hK => ?_)
                go_simp
                refine (pair_any _ _ _ _ _ _ _ _ _ _ _ _ (hsl _ hBe) (hsv _ hBe) hok hy16 hz16).mono ?_
                rintro e wd' ⟨rfl, hwd⟩
                replace hBe := hBe.trans (hwd.mono hBe.size)
                clear hwd
                refine hK.out _ _ (fun _ => hBe) ?_
                (try simp only [Act.put, List.setIfInBounds_toArray, List.set_cons_zero, List.set_cons_succ])
                clear hK K
                rw [ep2]
                repeat (first | (apply ord_tk rfl (by rfl) (by rfl) (by rfl); (focus (intro wx hSw; have r0 := (hSw.cell (p := ⟨w.heap.size, 0, none⟩) hszW).trans q0; have r1 := (hSw.cell (p := ⟨w.heap.size, 1, none⟩) hszW).trans q1; have r2 := (hSw.cell (p := ⟨w.heap.size, 2, none⟩) hszW).trans q2; go_simp; (try with_reducible rfl))); (try simp only [Act.put, List.setIfInBounds_toArray, List.set_cons_zero, List.set_cons_succ])) | (apply ord_skip rfl (by rfl) (by rfl) (fun _ => hBe); (try simp only [Act.put, List.setIfInBounds_toArray, List.set_cons_zero, List.set_cons_succ])))
                refine ord_do rfl (by rfl) (by rfl) (fun K hK => ?_)
                go_simp
                refine (rest_any _ _ _ _ _ hd1 (by omega)).mono ?_
                rintro e wd' ⟨rfl, hwd⟩
                replace hBe := hBe.trans (hwd.mono hBe.size)
                clear hwd
                refine hK.out _ _ (fun _ => hBe) ?_
                (try simp only [Act.put, List.setIfInBounds_toArray, List.set_cons_zero, List.set_cons_succ])
                clear hK K
                repeat (first | (apply ord_tk rfl (by rfl) (by rfl) (by rfl); (focus (intro wx hSw; have r0 := (hSw.cell (p := ⟨w.heap.size, 0, none⟩) hszW).trans q0; have r1 := (hSw.cell (p := ⟨w.heap.size, 1, none⟩) hszW).trans q1; have r2 := (hSw.cell (p := ⟨w.heap.size, 2, none⟩) hszW).trans q2; go_simp; (try with_reducible rfl))); (try simp only [Act.put, List.setIfInBounds_toArray, List.set_cons_zero, List.set_cons_succ])) | (apply ord_skip rfl (by rfl) (by rfl) (fun _ => hBe); (try simp only [Act.put, List.setIfInBounds_toArray, List.set_cons_zero, List.set_cons_succ])))
                refine ord_nil ?_
                go_wp2_with fail
                go_roundw
                case rel => exact ⟨z + 1, by omega, by go_num, fun j hj => by rcases Nat.lt_succ_iff_lt_or_eq.1 hj with h | rfl; exact hZ.out j h; rw [es, ep1, ep2, ep3]; exact hv'.out, hBe⟩
                case measure => simp [intOf] <;> omega
              · have hvb : (p3 != (p1 + p2) % D) = true := by simpa using hv
                have hF := hide (bilB_f (os := os) (vs := vs) (D := D) fun hm => hv (by have := hm.2 x y z hx16 hy16 hz16; rw [es, ep1, ep2, ep3] at this; exact this))
                clear hv
                go_wp2_with fail
                refine wp_region_be [0, 1, 2, 3, 5, 7, 8, 9, 10, 12, 13, 14, 4, 6, 11, 15, 16, 17, 18] 19 W.heap.size W (by kernel_rfl) (by kernel_rfl) (by kernel_rfl) (fun _ _ _ _ _ h => h) hBe (fun wd hBe => ?_)
                repeat (first | (apply ord_tk rfl (by rfl) (by rfl) (by rfl); (focus (intro wx hSw; have r0 := (hSw.cell (p := ⟨w.heap.size, 0, none⟩) hszW).trans q0; have r1 := (hSw.cell (p := ⟨w.heap.size, 1, none⟩) hszW).trans q1; have r2 := (hSw.cell (p := ⟨w.heap.size, 2, none⟩) hszW).trans q2; go_simp; (try with_reducible rfl))); (try simp only [Act.put, List.setIfInBounds_toArray, List.set_cons_zero, List.set_cons_succ])) | (apply ord_skip rfl (by rfl) (by rfl) (fun _ => hBe); (try simp only [Act.put, List.setIfInBounds_toArray, List.set_cons_zero, List.set_cons_succ])))
                refine ord_do rfl (by rfl) (by rfl) (fun K hK => ?_)
                go_simp
                refine (plus_any _ _ _ _ _ _ _ _ _ (hsl _ hBe) hG (by omega) (by omega) (by omega) (by omega)).mono ?_
                rintro e wd' ⟨rfl, hwd⟩
                replace hBe := hBe.trans (hwd.mono hBe.size)
                clear hwd
                refine hK.out _ _ (fun _ => hBe) ?_
                (try simp only [Act.put, List.setIfInBounds_toArray, List.set_cons_zero, List.set_cons_succ])
                clear hK K
                rw [es]
                repeat (first | (apply ord_tk rfl (by rfl) (by rfl) (by rfl); (focus (intro wx hSw; have r0 := (hSw.cell (p := ⟨w.heap.size, 0, none⟩) hszW).trans q0; have r1 := (hSw.cell (p := ⟨w.heap.size, 1, none⟩) hszW).trans q1; have r2 := (hSw.cell (p := ⟨w.heap.size, 2, none⟩) hszW).trans q2; go_simp; (try with_reducible rfl))); (try simp only [Act.put, List.setIfInBounds_toArray, List.set_cons_zero, List.set_cons_succ])) | (apply ord_skip rfl (by rfl) (by rfl) (fun _ => hBe); (try simp only [Act.put, List.setIfInBounds_toArray, List.set_cons_zero, List.set_cons_succ])))
                refine ord_do rfl (by rfl) (by rfl) (fun K hK => ?_)
                go_simp
                refine (pair_any _ _ _ _ _ _ _ _ _ _ _ _ (hsl _ hBe) (hsv _ hBe) hok hs16 hz16).mono ?_
                rintro e wd' ⟨rfl, hwd⟩
                replace hBe := hBe.trans (hwd.mono hBe.size)
                clear hwd
                refine hK.out _ _ (fun _ => hBe) ?_
                (try simp only [Act.put, List.setIfInBounds_toArray, List.set_cons_zero, List.set_cons_succ])
                clear hK K
                rw [ep3]
                repeat (first | (apply ord_tk rfl (by rfl) (by rfl) (by rfl); (focus (intro wx hSw; have r0 := (hSw.cell (p := ⟨w.heap.size, 0, none⟩) hszW).trans q0; have r1 := (hSw.cell (p := ⟨w.heap.size, 1, none⟩) hszW).trans q1; have r2 := (hSw.cell (p := ⟨w.heap.size, 2, none⟩) hszW).trans q2; go_simp; (try with_reducible rfl))); (try simp only [Act.put, List.setIfInBounds_toArray, List.set_cons_zero, List.set_cons_succ])) | (apply ord_skip rfl (by rfl) (by rfl) (fun _ => hBe); (try simp only [Act.put, List.setIfInBounds_toArray, List.set_cons_zero, List.set_cons_succ])))
                refine ord_do rfl (by rfl) (by rfl) (fun K hK => ?_)
                go_simp
                refine (pair_any _ _ _ _ _ _ _ _ _ _ _ _ (hsl _ hBe) (hsv _ hBe) hok hx16 hz16).mono ?_
                rintro e wd' ⟨rfl, hwd⟩
                replace hBe := hBe.trans (hwd.mono hBe.size)
                clear hwd
                refine hK.out _ _ (fun _ => hBe) ?_
                (try simp only [Act.put, List.setIfInBounds_toArray, List.set_cons_zero, List.set_cons_succ])
                clear hK K
                rw [ep1]
                repeat (first | (apply ord_tk rfl (by rfl) (by rfl) (by rfl); (focus (intro wx hSw; have r0 := (hSw.cell (p := ⟨w.heap.size, 0, none⟩) hszW).trans q0; have r1 := (hSw.cell (p := ⟨w.heap.size, 1, none⟩) hszW).trans q1; have r2 := (hSw.cell (p := ⟨w.heap.size, 2, none⟩) hszW).trans q2; go_simp; (try with_reducible rfl))); (try simp only [Act.put, List.setIfInBounds_toArray, List.set_cons_zero, List.set_cons_succ])) | (apply ord_skip rfl (by rfl) (by rfl) (fun _ => hBe); (try simp only [Act.put, List.setIfInBounds_toArray, List.set_cons_zero, List.set_cons_succ])))
                refine ord_do rfl (by rfl) (by rfl) (fun K hK => ?_)
                go_simp
                refine (pair_any _ _ _ _ _ _ _ _ _ _ _ _ (hsl _ hBe) (hsv _ hBe) hok hy16 hz16).mono ?_
                rintro e wd' ⟨rfl, hwd⟩
                replace hBe := hBe.trans (hwd.mono hBe.size)
                clear hwd
                refine hK.out _ _ (fun _ => hBe) ?_
                (try simp only [Act.put, List.setIfInBounds_toArray, List.set_cons_zero, List.set_cons_succ])
                clear hK K
                rw [ep2]
                repeat (first | (apply ord_tk rfl (by rfl) (by rfl) (by rfl); (focus (intro wx hSw; have r0 := (hSw.cell (p := ⟨w.heap.size, 0, none⟩) hszW).trans q0; have r1 := (hSw.cell (p := ⟨w.heap.size, 1, none⟩) hszW).trans q1; have r2 := (hSw.cell (p := ⟨w.heap.size, 2, none⟩) hszW).trans q2; go_simp; (try with_reducible rfl))); (try simp only [Act.put, List.setIfInBounds_toArray, List.set_cons_zero, List.set_cons_succ])) | (apply ord_skip rfl (by rfl) (by rfl) (fun _ => hBe); (try simp only [Act.put, List.setIfInBounds_toArray, List.set_cons_zero, List.set_cons_succ])))
                refine ord_do rfl (by rfl) (by rfl) (fun K hK => ?_)
                go_simp
                refine (rest_any _ _ _ _ _ hd1 (by omega)).mono ?_
                rintro e wd' ⟨rfl, hwd⟩
                replace hBe := hBe.trans (hwd.mono hBe.size)
                clear hwd
                refine hK.out _ _ (fun _ => hBe) ?_
                (try simp only [Act.put, List.setIfInBounds_toArray, List.set_cons_zero, List.set_cons_succ])
                clear hK K
                repeat (first | (apply ord_tk rfl (by rfl) (by rfl) (by rfl); (focus (intro wx hSw; have r0 := (hSw.cell (p := ⟨w.heap.size, 0, none⟩) hszW).trans q0; have r1 := (hSw.cell (p := ⟨w.heap.size, 1, none⟩) hszW).trans q1; have r2 := (hSw.cell (p := ⟨w.heap.size, 2, none⟩) hszW).trans q2; go_simp; (try with_reducible rfl))); (try simp only [Act.put, List.setIfInBounds_toArray, List.set_cons_zero, List.set_cons_succ])) | (apply ord_skip rfl (by rfl) (by rfl) (fun _ => hBe); (try simp only [Act.put, List.setIfInBounds_toArray, List.set_cons_zero, List.set_cons_succ])))
                refine ord_nil ?_
                go_wp2
                go_ret
                exact ⟨by rw [hF.out]; rfl, hbW.trans (hBe.mono (Nat.le_of_lt hszW))⟩
            · obtain rfl : z = vs.length := by omega
              go_wp2
              go_roundw
              case rel => exact ⟨y + 1, by omega, by go_num, fun j z hj hz => by rcases Nat.lt_succ_iff_lt_or_eq.1 hj with h | rfl; exact hY.out j z h hz; exact hZ.out z hz, hBe⟩
              case measure => simp [intOf] <;> omega
        · obtain rfl : y = vs.length := by omega
          go_wp2
          go_roundw
          case rel => exact ⟨x + 1, by omega, by go_num, hXN2.out, fun j y z hj hy hz => by rcases Nat.lt_succ_iff_lt_or_eq.1 hj with h | rfl; exact hX.out j y z h hy hz; exact hY.out y z hy hz, hBe⟩
          case measure => simp [intOf] <;> omega
    · obtain rfl : x = vs.length := by omega
      have hT := hide (bilB_t (os := os) (vs := vs) (D := D) ⟨fun x hx => hXN.out x (by have := hL.out; omega), fun x y z hx hy hz => hX.out x y z (by have := hL.out; omega) (by have := hL.out; omega) (by have := hL.out; omega)⟩)
      go_wp2
      go_ret
      exact ⟨by rw [hT.out]; rfl, hbW.trans (hBe.mono (Nat.le_of_lt hszW))⟩
end Go.Proofs.YtonehmjoolflfaaGreatDoor
