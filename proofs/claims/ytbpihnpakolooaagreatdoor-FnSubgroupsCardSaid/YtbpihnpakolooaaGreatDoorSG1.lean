
/- The walk of Metric.generated: a queue of sums, then slices.Sort. -/
import Derived.Test.YtbpihnpakolooaaGreatDoorGN
import Derived.Test.YtbpihnpakolooaaGreatDoorSO
import Derived.Test.YtbpihnpakolooaaGreatDoorEa
import Derived.Test.YtbpihnpakolooaaGreatDoorBa
import Derived.Test.YtbpihnpakolooaaGreatDoorIa
namespace Go.Proofs.YtbpihnpakolooaaGreatDoor
open Go Go.RowKit Grp
set_option linter.unusedSimpArgs false
set_option linter.unusedVariables false
set_option maxRecDepth 100000
theorem bnot_mem_t {q : List Int} {y : Int} (h : y ∈ q) : hasB q y = true := hasB_iff.2 h
theorem bnot_mem_f {q : List Int} {y : Int} (h : y ∉ q) : hasB q y = false := by
  cases e : hasB q y with
  | false => rfl
  | true => exact absurd (hasB_iff.1 e) h
theorem gen_rng {os : List Int} (hG : OkG os) {N : Nat} (hN : prodL os = N) : ∀ a x, 0 ≤ Ar os a x ∧ Ar os a x < N := fun a x => hN ▸ Ar_rng hG a x
set_option maxHeartbeats 4000000 in
theorem generated_any (w : World) (A : Option Addr) (n c : Nat) (os : List Int) (D : Int) (A' : Option Addr) (n' c' : Nat) (L : Option Addr) (l lc : Nat) (xs : List Int) (N : Nat)
    (h : Sl w w.heap.size A n c os) (hx : Sl w w.heap.size L l lc xs) (hl : l ≤ 1048576) (hG : OkG os) (hN : prodL os = N) (hI : ∀ x ∈ xs, 0 ≤ x ∧ x < prodL os) :
    Calls Tryz.prog 86 #[.agg #[.slice A n c, .int .i64 D, .slice A' n' c'], .slice L l lc] w (Mk w (genL (Ar os) xs N)) := by
  obtain rfl := hx.len
  have HR := hide (gen_rng hG hN)
  have hge := hG.ge
  have h16 := hG.p16
  have N0 : 0 < N := by omega
  have N16 : N ≤ 16 := by omega
  have HN := hide hN
  have HI := hide (show ∀ x ∈ xs, 0 ≤ x ∧ x < (N : Int) by rw [← hN]; exact hI)
  clear hI hN hge h16
  go_enter Tryz.func86, Tryz.ntmps86
  go_wp2_with fail
  obtain ⟨W, hW⟩ : ∃ W, w.alloc (.cells #[.slice A n c, .int .i64 D, .slice A' n' c'] 26) = W := ⟨_, rfl⟩
  have hbW : Below w.heap.size w W := by rw [← hW]; exact (by repeat (first | assumption | exact Below.refl _ _ | apply below_drewN | apply Below.drew | apply Below.alloc | apply Below.setCell | omega | (focus (simp; done)) | (focus (simp; omega))))
  have hszW : w.heap.size < W.heap.size := by rw [← hW]; simp
  have hsW := hide (show W.heap.size = w.heap.size + 1 by rw [← hW]; simp)
  have bM : Blk W w.heap.size 26 #[.slice A n c, .int .i64 D, .slice A' n' c'] := by rw [← hW]; exact Blk.new _ _ _
  have q0 : W.cell? ⟨w.heap.size, 0, none⟩ = some (.slice A n c) := by rw [← hW]; exact (Blk.new _ _ _).cell 0
  have q1 : W.cell? ⟨w.heap.size, 1, none⟩ = some (.int .i64 D) := by rw [← hW]; exact (Blk.new _ _ _).cell 1
  have q2 : W.cell? ⟨w.heap.size, 2, none⟩ = some (.slice A' n' c') := by rw [← hW]; exact (Blk.new _ _ _).cell 2
  rw [hW]
  clear hW
  have hs := (h.below hbW).more (Nat.le_of_lt hszW)
  have hxs := hx.below hbW
  have hsl : ∀ wd, Below W.heap.size W wd → Sl wd wd.heap.size A n c os := fun wd h => (hs.below h).more h.size
  have hB2 : Below W.heap.size W (W.alloc (.cells #[.int .i64 0] 2)) := (Below.refl _ _).alloc (Nat.le_refl _) _
  have hO2 : Ow (W.alloc (.cells #[.int .i64 0] 2)) W.heap.size (.slice (some ⟨w.heap.size + 1, 0, none⟩) 1 1) [0] := Ow.made' (xs := [0]) W #[.int .i64 0] (w.heap.size + 1) 1 hsW.out rfl (by rw [hsW.out]; omega) rfl (by unfold maxLen; omega)
  have HS := hide (Qs.start (Ar os) xs)
  have HI6 := hide (show ∀ (q : List Int) (i k : Nat), Qs (Ar os) xs q i k → ∀ y ∈ q, i64ok y from fun q i k hq y hy => by
    have := (hq.gen y hy).rng HR.out (by omega)
    exact ⟨by omega, by omega⟩)
  go_wp2_with fail
  go_loopw [5, 6] (fun o i wr => ∃ (k : Nat) (q : List Int) (vv : Value), k ≤ q.length ∧ i = .int .i64 k ∧ vv = o ∧ Qs (Ar os) xs q k 0 ∧ Ow wr W.heap.size vv q ∧ Below W.heap.size W wr) (fun _ i _ => N - (intOf i).toNat)
  case atStart => exact ⟨0, [0], _, by simp, rfl, rfl, HS.out, hO2, hB2⟩
  case round =>
    clear hO2 hB2 HS
    obtain ⟨k, q, vv, hk, rfl, rfl, hQ, hO, hBe⟩ := hrel
    have hqN := hQ.len HR.out N0
    have HQ := hide hQ
    clear hQ
    obtain ⟨vA, vc, rfl⟩ := hO.val
    by_cases hlt : k < q.length
    · go_wp2_with fail
      go_loopw [5, 19] (fun o i wr => ∃ (j : Nat) (q : List Int) (vv : Value), j ≤ xs.length ∧ i = .int .i64 j ∧ vv = o ∧ k < q.length ∧ Qs (Ar os) xs q k j ∧ Ow wr W.heap.size vv q ∧ Below W.heap.size W wr) (fun _ i _ => xs.length - (intOf i).toNat)
      case atStart => exact ⟨0, q, _, by omega, rfl, rfl, hlt, HQ.out, hO, hBe⟩
      case round =>
        clear hO hBe HQ hlt hqN hk
        obtain ⟨j, q, vv, hj, rfl, rfl, hkq, hQ, hO, hBe⟩ := hrel
        have hqN := hQ.len HR.out N0
        have hq6 := hide (HI6.out _ _ _ hQ)
        have HQ := hide hQ
        clear hQ
        by_cases hlj : j < xs.length
        · obtain ⟨b, off, rfl, hb, hc⟩ := hxs.at_ (by omega)
          have c1 := hc j hlj
          have hbG : b < W.heap.size := by omega
          clear hc
          obtain ⟨x0, x1⟩ := HI.out _ (gi_mem hlj)
          obtain ⟨x, ex⟩ : ∃ x, gi xs j = x := ⟨_, rfl⟩
          obtain ⟨a, ea⟩ : ∃ a, gi q k = a := ⟨_, rfl⟩
          have hMt := hide (fun hm => HQ.out.met (k := j) (i := k) hm)
          have hPu := hide (fun hm => HQ.out.push hkq hlj hm)
          have ha := (HQ.out.gen _ (gi_mem hkq)).rng HR.out (by omega)
          rw [ex, ea] at hMt hPu
          rw [ea] at ha
          rw [ex] at c1 x0 x1
          have hm1 := wr64 x ⟨by omega, by omega⟩
          rcases hO.form with ⟨_, e2⟩ | ⟨g, cap, rfl, hg, hgl, hcap⟩
          · exact absurd hkq (by rw [e2]; simp)
          have cg := hO.cell rfl hkq
          rw [ea] at cg
          obtain ⟨sA, sc, es, hSl⟩ := hO.sl hq6.out
          cases es
          clear ex ea
          have hB0 := hBe
          have hz0 : w.heap.size < wr.heap.size := Nat.lt_of_lt_of_le hszW hB0.size
          have y0 := (hB0.cell (p := ⟨w.heap.size, 0, none⟩) hszW).trans q0
          have y1 := (hB0.cell (p := ⟨w.heap.size, 1, none⟩) hszW).trans q1
          have y2 := (hB0.cell (p := ⟨w.heap.size, 2, none⟩) hszW).trans q2
          have c2 := (hB0.cell (p := ⟨b, off + j, none⟩) hbG).trans c1
          obtain ⟨y, ey⟩ : ∃ y, Ar os a x = y := ⟨_, rfl⟩
          have hpc := fun W' a' => plus_any W' (.int .i64 D) (.slice A' n' c') A n c os a x a' hG (by omega) (by omega) x0 (by omega)
          rw [ey] at hpc hMt hPu
          clear c1
          go_wp2_with fail
          refine wp_region_be [0, 1, 2, 3, 4, 5, 6, 7] 7 wr.heap.size wr (by kernel_rfl) (by kernel_rfl) (by kernel_rfl) (fun _ _ _ _ _ h => h) (Below.refl _ _) (fun wd hBe => ?_)
          repeat (first | (apply ord_tk rfl (by rfl) (by rfl) (by rfl); (focus (intro wx hSw; have r0 := (hSw.cell (p := ⟨w.heap.size, 0, none⟩) hz0).trans y0; have r1 := (hSw.cell (p := ⟨w.heap.size, 1, none⟩) hz0).trans y1; have r2 := (hSw.cell (p := ⟨w.heap.size, 2, none⟩) hz0).trans y2; have r3 := (hSw.cell (p := ⟨g, k, none⟩) hgl).trans cg; go_simp; (try with_reducible rfl))); (try simp only [Act.put, List.setIfInBounds_toArray, List.set_cons_zero, List.set_cons_succ])) | (apply ord_skip rfl (by rfl) (by rfl) (fun _ => hBe); (try simp only [Act.put, List.setIfInBounds_toArray, List.set_cons_zero, List.set_cons_succ])))
          refine ord_do rfl (by rfl) (by rfl) (fun K hK => ?_)
          go_simp
          refine (hpc _ (hsl _ (hB0.trans (hBe.mono hB0.size)))).mono ?_
          rintro e wd' ⟨rfl, hwd⟩
          replace hBe := hBe.trans (hwd.mono hBe.size)
          clear hwd
          refine hK.out _ _ (fun _ => hBe) ?_
          (try simp only [Act.put, List.setIfInBounds_toArray, List.set_cons_zero, List.set_cons_succ])
          clear hK K
          repeat (first | (apply ord_tk rfl (by rfl) (by rfl) (by rfl); (focus (intro wx hSw; have r0 := hz0; go_simp; (try with_reducible rfl))); (try simp only [Act.put, List.setIfInBounds_toArray, List.set_cons_zero, List.set_cons_succ])) | (apply ord_skip rfl (by rfl) (by rfl) (fun _ => hBe); (try simp only [Act.put, List.setIfInBounds_toArray, List.set_cons_zero, List.set_cons_succ])))
          refine ord_do rfl (by rfl) (by rfl) (fun K hK => ?_)
          go_simp
          refine hK.out _ _ (fun h => absurd h (by omega)) ?_
          (try simp only [Act.put, List.setIfInBounds_toArray, List.set_cons_zero, List.set_cons_succ])
          clear hK K
          refine ord_nil ?_
          have hO := hO.below hBe
          have hSl := (hSl.below hBe).more hBe.size
          replace hBe := hB0.trans (hBe.mono hB0.size)
          clear hB0 y0 y1 y2 c2 cg hz0
          go_wp2_with fail
          refine (sContains_any _ _ _ _ _ q y hSl (by omega)).mono ?_
          rintro e w3 ⟨rfl, m3, rfl⟩
          have hO := hO.drewN m3
          have hBe := below_drewN hBe m3
          by_cases hm : y ∈ q
          · have hT := bnot_mem_t hm
            have hQ' := hide (hMt.out hm)
            rw [hT]
            clear hm hT
            go_wp2_with fail
            go_roundw
            case rel => exact ⟨j + 1, q, _, by omega, by go_num, rfl, hkq, hQ'.out, hO, hBe⟩
            case measure => simp [intOf] <;> omega
          · have hT := bnot_mem_f hm
            have hQ' := hide (hPu.out hm)
            rw [hT]
            clear hm hT
            go_wp2_with (at_builtin; refine list_push _ rfl _ _ rfl W.heap.size _ _ rfl (hO.alloc _) y _ _ rfl (Blk.new _ _ _) (by omega) (by have := hBe.size; simp at this ⊢; omega) (by simp) ?_; intro g' cap' w4 hP4)
            go_roundw
            case rel => exact ⟨j + 1, _, _, by omega, by go_num, rfl, by simp; omega, hQ'.out, hP4.own, (hBe.alloc hBe.size _).trans (hP4.below (hO.alloc _) (by have := hBe.size; simp at this ⊢; omega))⟩
            case measure => simp [intOf] <;> omega
        · obtain rfl : j = xs.length := by omega
          have hR := hide HQ.out.row
          go_wp2_with fail
          go_roundw
          case rel => exact ⟨k + 1, q, _, by omega, by go_num, rfl, hR.out, hO, hBe⟩
          case measure => simp [intOf] <;> omega
    · obtain rfl : k = q.length := by omega
      have hE := hide (HQ.out.sort (Nat.le_refl _) HR.out N0)
      go_wp2_with fail
      refine (sort_any _ W.heap.size _ q hO (by omega)).mono ?_
      rintro e w3 ⟨rfl, hO3, hg3⟩
      have hB3 : Below W.heap.size W w3 := hBe.grown hg3 hBe.size (fun b hb => (hO.lt b hb).1)
      rw [show srt q = genL (Ar os) xs N from hE.out] at hO3
      go_wp2_with fail
      go_ret
      exact ⟨_, rfl, hO3.less (Nat.le_of_lt hszW), hbW.trans (hB3.mono (Nat.le_of_lt hszW))⟩
end Go.Proofs.YtbpihnpakolooaaGreatDoor
