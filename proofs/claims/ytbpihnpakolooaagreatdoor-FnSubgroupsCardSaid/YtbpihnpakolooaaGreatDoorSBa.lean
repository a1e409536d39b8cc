
/- The walks of SubgroupFrom of both sides. The walks of IsSubgroup, IsIsotropicSubgroup, OrthogonalSubgroup of both sides. FnSubgroups, plain: what the functions on subgroups return fits together. -/
import Derived.Test.YtbpihnpakolooaaGreatDoorSG1
import Derived.Test.YtbpihnpakolooaaGreatDoorU2a
import Derived.Test.YtbpihnpakolooaaGreatDoorLa
import Derived.WalkLawsBesides
import Derived.Test.YtbpihnpakolooaaGreatDoorU5
import Derived.Test.YtbpihnpakolooaaGreatDoorCma
import Derived.Test.YtbpihnpakolooaaGreatDoorMWz
import Derived.Test.YtbpihnpakolooaaGreatDoorR2
namespace Go.Proofs.YtbpihnpakolooaaGreatDoor
open Go Go.RowKit Grp
set_option linter.unusedSimpArgs false
set_option linter.unusedVariables false
set_option maxRecDepth 100000
/-- The table of what a queue holds. -/
def metC (q : List Int) (N : Nat) : Array Value := ((List.range N).map fun (x : Nat) => Value.bool (hasB q (x : Int))).toArray
theorem metC_get {q : List Int} {N j : Nat} (hj : j < N) : (metC q N)[j]? = some (.bool (hasB q (j : Int))) := by
  simp [metC, List.getElem?_range hj]
theorem hasB_snoc (q : List Int) (y v : Int) : hasB (q ++ [y]) v = (hasB q v || y == v) := by simp [hasB]
theorem metC_set (q : List Int) (N j : Nat) : (metC q N).setIfInBounds j (.bool true) = metC (q ++ [(j : Int)]) N := by
  apply Array.ext_getElem?
  intro k
  rw [Array.getElem?_setIfInBounds]
  by_cases hk : k < N
  · rw [metC_get hk, metC_get hk, hasB_snoc]
    by_cases e : j = k
    · subst e; simp [metC, hk]
    · rw [if_neg e]
      have : ((j : Int) == (k : Int)) = false := by simpa using fun h => e (by omega)
      rw [this, Bool.or_false]
  · rw [Array.getElem?_eq_none (by simp [metC]; omega), Array.getElem?_eq_none (by simp [metC]; omega)]
    split <;> rename_i h
    · simp [metC]; omega
    · rfl
theorem metC_made (N : Nat) : madeCells #[.bool false] N = metC [] N := by
  apply Array.toList_inj.1
  rw [toList_madeCells_one]
  apply List.ext_getElem?
  intro k
  by_cases hk : k < N
  · simp [metC, hasB, hk]
  · rw [List.getElem?_eq_none (by simp; omega), List.getElem?_eq_none (by simp [metC]; omega)]
/-- The elements below k that a queue holds, in order. -/
def hldL (q : List Int) (k : Nat) : List Int := ((List.range k).filter fun (x : Nat) => hasB q (x : Int)).map fun (x : Nat) => (x : Int)
theorem hldL_t {q : List Int} {k : Nat} (h : hasB q (k : Int) = true) : hldL q (k + 1) = hldL q k ++ [(k : Int)] := by
  unfold hldL; rw [List.range_succ, List.filter_append, List.map_append]; simp [h]
theorem hldL_f {q : List Int} {k : Nat} (h : hasB q (k : Int) = false) : hldL q (k + 1) = hldL q k := by
  unfold hldL; rw [List.range_succ, List.filter_append, List.map_append]; simp [h]
theorem hldL_len (q : List Int) (k : Nat) : (hldL q k).length ≤ k := by
  unfold hldL; rw [List.length_map]; exact Nat.le_trans (List.length_filter_le _ _) (by simp)
theorem hldL_gen {f : Int → Int → Int} {l q : List Int} {i N : Nat} (h : Qs f l q i 0) (hi : q.length ≤ i) : hldL q N = genL f l N := by
  unfold hldL genL
  congr 1
  apply List.filter_congr
  intro x _
  by_cases hg : Gen f l (x : Int)
  · rw [hasB_iff.2 ((h.fin hi _).1 hg)]; simp [hg]
  · have : hasB q (x : Int) = false := by
      cases e : hasB q (x : Int) with
      | false => rfl
      | true => exact absurd ((h.fin hi _).2 (hasB_iff.1 e)) hg
    rw [this]; simp [hg]
/-- What SubgroupFrom returns. -/
noncomputable def sgfL (os : List Int) (D : Int) (vs xs : List Int) : List Int := if codeL os D vs xs = 0 then genL (Ar os) xs vs.length else []
set_option maxHeartbeats 2000000 in
theorem impl_Gen_any (w : World) (A : Option Addr) (n c : Nat) (os : List Int) (D : Int) (A' : Option Addr) (n' c' : Nat) (vs : List Int) (L : Option Addr) (l lc : Nat) (xs : List Int)
    (h : Sl w w.heap.size A n c os) (h' : Sl w w.heap.size A' n' c' vs) (hx : Sl w w.heap.size L l lc xs) (hn : n ≤ 1048576) (hn' : n' ≤ 1048576) (hl : l ≤ 1048576) :
    Calls Tryz.prog 39 #[.agg #[.slice A n c, .int .i64 D, .slice A' n' c'], .slice L l lc] w (MkC w (sgfL os D vs xs) (codeL os D vs xs)) := by
  obtain rfl := h'.len
  obtain rfl := hx.len
  have hcode := fun W A n c A' n' c' LL l lc => listCode_any W A n c os D A' n' c' vs LL l lc xs
  obtain ⟨k, hk⟩ : ∃ k, codeL os D vs xs = k := ⟨_, rfl⟩
  rw [hk] at hcode
  by_cases hk0 : k = 0
  · subst hk0
    obtain ⟨hM, hI⟩ := codeL_0 hk
    have hG := hM.ok.g
    have HI := hide hI.mem
    have HL := hide hM.ok.len
    obtain ⟨b, hb⟩ : ∃ b, genL (Ar os) xs vs.length = b := ⟨_, rfl⟩
    have hV := hide (show sgfL os D vs xs = b by unfold sgfL; rw [hk, if_pos rfl, hb])
    have hC := hide hk
    clear hk
    go_enter Tryz.func39, Tryz.ntmps39
    go_wp2_with fail
    obtain ⟨W, hW⟩ : ∃ W, w.alloc (.cells #[.slice A n c, .int .i64 D, .slice A' vs.length c'] 26) = W := ⟨_, rfl⟩
    have hbW : Below w.heap.size w W := by rw [← hW]; exact (by repeat (first | assumption | exact Below.refl _ _ | apply below_drewN | apply Below.drew | apply Below.alloc | apply Below.setCell | omega | (focus (simp; done)) | (focus (simp; omega))))
    have hszW : w.heap.size < W.heap.size := by rw [← hW]; simp
    have hsW := hide (show W.heap.size = w.heap.size + 1 by rw [← hW]; simp)
    have bM : Blk W w.heap.size 26 #[.slice A n c, .int .i64 D, .slice A' vs.length c'] := by rw [← hW]; exact Blk.new _ _ _
    have q0 : W.cell? ⟨w.heap.size, 0, none⟩ = some (.slice A n c) := by rw [← hW]; exact (Blk.new _ _ _).cell 0
    have q1 : W.cell? ⟨w.heap.size, 1, none⟩ = some (.int .i64 D) := by rw [← hW]; exact (Blk.new _ _ _).cell 1
    have q2 : W.cell? ⟨w.heap.size, 2, none⟩ = some (.slice A' vs.length c') := by rw [← hW]; exact (Blk.new _ _ _).cell 2
    rw [hW]
    clear hW
    have hs := (h.below hbW).more (Nat.le_of_lt hszW)
    have hs' := (h'.below hbW).more (Nat.le_of_lt hszW)
    have hxs := (hx.below hbW).more (Nat.le_of_lt hszW)
    refine (hcode _ _ _ _ _ _ _ _ _ _ hs hs' hxs hn hn' hl).mono ?_
    rintro e w2 ⟨rfl, hb2⟩
    have r0 := (hb2.cell (p := ⟨w.heap.size, 0, none⟩) hszW).trans q0
    have r1 := (hb2.cell (p := ⟨w.heap.size, 1, none⟩) hszW).trans q1
    have r2 := (hb2.cell (p := ⟨w.heap.size, 2, none⟩) hszW).trans q2
    have hs2 := (hs.below hb2).more hb2.size
    have hs2' := (hs'.below hb2).more hb2.size
    have hxs2 := (hxs.below hb2).more hb2.size
    go_wp2_with fail
    clear r0 r1 r2
    refine (generated_any _ _ _ _ os _ _ _ _ _ _ _ xs vs.length hs2 hxs2 hl hG HL.out.symm HI.out).mono ?_
    rw [hb]
    rintro e w3 ⟨v, rfl, hO, hb3⟩
    have k3 := hb2.trans (hb3.mono hb2.size)
    have hz2 := hb2.size
    clear hb
    go_wp2
    refine bodyPost_ret (v := .tuple #[v, .int .i64 0]) (by simp [results, Tryz.results39, go_sem]) rfl ?_
    exact ⟨_, by rw [hC.out], by rw [hV.out]; exact hO.less (by omega), hbW.trans (k3.mono (Nat.le_of_lt hszW))⟩
  · have hV := hide (show sgfL os D vs xs = [] by unfold sgfL; rw [hk, if_neg hk0])
    have hkb' : (k != 0) = true := by simpa using hk0
    have hC := hide hk
    clear hk
    go_enter Tryz.func39, Tryz.ntmps39
    go_wp2_with fail
    obtain ⟨W, hW⟩ : ∃ W, w.alloc (.cells #[.slice A n c, .int .i64 D, .slice A' vs.length c'] 26) = W := ⟨_, rfl⟩
    have hbW : Below w.heap.size w W := by rw [← hW]; exact (by repeat (first | assumption | exact Below.refl _ _ | apply below_drewN | apply Below.drew | apply Below.alloc | apply Below.setCell | omega | (focus (simp; done)) | (focus (simp; omega))))
    have hszW : w.heap.size < W.heap.size := by rw [← hW]; simp
    have hsW := hide (show W.heap.size = w.heap.size + 1 by rw [← hW]; simp)
    have bM : Blk W w.heap.size 26 #[.slice A n c, .int .i64 D, .slice A' vs.length c'] := by rw [← hW]; exact Blk.new _ _ _
    have q0 : W.cell? ⟨w.heap.size, 0, none⟩ = some (.slice A n c) := by rw [← hW]; exact (Blk.new _ _ _).cell 0
    have q1 : W.cell? ⟨w.heap.size, 1, none⟩ = some (.int .i64 D) := by rw [← hW]; exact (Blk.new _ _ _).cell 1
    have q2 : W.cell? ⟨w.heap.size, 2, none⟩ = some (.slice A' vs.length c') := by rw [← hW]; exact (Blk.new _ _ _).cell 2
    rw [hW]
    clear hW
    have hs := (h.below hbW).more (Nat.le_of_lt hszW)
    have hs' := (h'.below hbW).more (Nat.le_of_lt hszW)
    have hxs := (hx.below hbW).more (Nat.le_of_lt hszW)
    refine (hcode _ _ _ _ _ _ _ _ _ _ hs hs' hxs hn hn' hl).mono ?_
    rintro e w2 ⟨rfl, hb2⟩
    have r0 := (hb2.cell (p := ⟨w.heap.size, 0, none⟩) hszW).trans q0
    have r1 := (hb2.cell (p := ⟨w.heap.size, 1, none⟩) hszW).trans q1
    have r2 := (hb2.cell (p := ⟨w.heap.size, 2, none⟩) hszW).trans q2
    have hs2 := (hs.below hb2).more hb2.size
    have hs2' := (hs'.below hb2).more hb2.size
    have hxs2 := (hxs.below hb2).more hb2.size
    go_wp2_with fail
    clear r0 r1 r2
    refine bodyPost_ret (v := .tuple #[.slice none 0 0, .int .i64 k]) (by simp [results, Tryz.results39, go_sem]) rfl ?_
    exact ⟨_, by rw [hC.out], by rw [hV.out]; exact Ow.nil _ _, hbW.trans (hb2.mono (Nat.le_of_lt hszW))⟩
theorem bool_info : (Tryz.prog.info? 4).map (fun i => (i.zero, i.size, i.bytes)) = some (some (.bool false), 1, 1) := by kernel_rfl
set_option maxHeartbeats 2000000 in
theorem spec_Gen_any (w : World) (A : Option Addr) (n c : Nat) (os : List Int) (D : Int) (A' : Option Addr) (n' c' : Nat) (vs : List Int) (L : Option Addr) (l lc : Nat) (xs : List Int)
    (h : Sl w w.heap.size A n c os) (h' : Sl w w.heap.size A' n' c' vs) (hx : Sl w w.heap.size L l lc xs) (hn : n ≤ 1048576) (hn' : n' ≤ 1048576) (hl : l ≤ 1048576) :
    Calls Tryz.prog 42 #[.agg #[.slice A n c, .int .i64 D, .slice A' n' c'], .slice L l lc] w (MkC w (sgfL os D vs xs) (codeL os D vs xs)) := by
  obtain rfl := h'.len
  obtain rfl := hx.len
  have hcode := fun W A n c A' n' c' LL l lc => l11List_any W A n c os D A' n' c' vs LL l lc xs
  obtain ⟨k, hk⟩ : ∃ k, codeL os D vs xs = k := ⟨_, rfl⟩
  rw [hk] at hcode
  by_cases hk0 : k = 0
  · subst hk0
    obtain ⟨hM, hI⟩ := codeL_0 hk
    have hG := hM.ok.g
    have HI := hide hI.mem
    have HL := hide hM.ok.len
    have hV := hide (show sgfL os D vs xs = genL (Ar os) xs vs.length by unfold sgfL; rw [hk, if_pos rfl])
    have hC := hide hk
    have HR := hide (gen_rng hG HL.out.symm)
    have hge := hG.ge
    have h16 := hG.p16
    have hLL := HL.out
    have N0 : 0 < vs.length := by omega
    have N16 : vs.length ≤ 16 := by omega
    clear hk hge h16 hLL
    obtain ⟨i0, hi0, hz0, hz1, hz2⟩ := info_parts bool_info
    have hmk := fun W => run_make (P := Tryz.prog) (w := W) 45 4 i0 (.bool false) Tryz.underlying45 hi0 hz0 .i64 .i64 vs.length vs.length (by omega) (by omega) (by rw [hz2]; omega) (by omega)
    simp only [hz1, Int.toNat_natCast, Nat.mul_one] at hmk
    have HMK := hide hmk
    clear hmk
    go_enter Tryz.func42, Tryz.ntmps42
    go_wp2_with fail
    obtain ⟨W, hW⟩ : ∃ W, w.alloc (.cells #[.slice A n c, .int .i64 D, .slice A' vs.length c'] 26) = W := ⟨_, rfl⟩
    have hbW : Below w.heap.size w W := by rw [← hW]; exact (by repeat (first | assumption | exact Below.refl _ _ | apply below_drewN | apply Below.drew | apply Below.alloc | apply Below.setCell | omega | (focus (simp; done)) | (focus (simp; omega))))
    have hszW : w.heap.size < W.heap.size := by rw [← hW]; simp
    have hsW := hide (show W.heap.size = w.heap.size + 1 by rw [← hW]; simp)
    have bM : Blk W w.heap.size 26 #[.slice A n c, .int .i64 D, .slice A' vs.length c'] := by rw [← hW]; exact Blk.new _ _ _
    have q0 : W.cell? ⟨w.heap.size, 0, none⟩ = some (.slice A n c) := by rw [← hW]; exact (Blk.new _ _ _).cell 0
    have q1 : W.cell? ⟨w.heap.size, 1, none⟩ = some (.int .i64 D) := by rw [← hW]; exact (Blk.new _ _ _).cell 1
    have q2 : W.cell? ⟨w.heap.size, 2, none⟩ = some (.slice A' vs.length c') := by rw [← hW]; exact (Blk.new _ _ _).cell 2
    rw [hW]
    clear hW
    have hs := (h.below hbW).more (Nat.le_of_lt hszW)
    have hs' := (h'.below hbW).more (Nat.le_of_lt hszW)
    have hxs := (hx.below hbW).more (Nat.le_of_lt hszW)
    refine (hcode _ _ _ _ _ _ _ _ _ _ hs hs' hxs hn hn' hl).mono ?_
    rintro e w2 ⟨rfl, hb2⟩
    have r0 := (hb2.cell (p := ⟨w.heap.size, 0, none⟩) hszW).trans q0
    have r1 := (hb2.cell (p := ⟨w.heap.size, 1, none⟩) hszW).trans q1
    have r2 := (hb2.cell (p := ⟨w.heap.size, 2, none⟩) hszW).trans q2
    have hs2 := (hs.below hb2).more hb2.size
    have hs2' := (hs'.below hb2).more hb2.size
    have hxs2 := (hxs.below hb2).more hb2.size
    go_wp2_with fail
    clear r0 r1 r2
    refine (l10Size_any _ _ _ _ _ _ hs2 hG).mono ?_
    rw [← HL.out]
    rintro e w3 ⟨rfl, m3, rfl⟩
    have HI2 := hide (show ∀ x ∈ xs, 0 ≤ x ∧ x < (vs.length : Int) by rw [HL.out]; exact HI.out)
    have hmk := HMK.out
    have hsz2 := hide (show W.heap.size ≤ w2.heap.size from hb2.size)
    obtain ⟨wm, hwm⟩ : ∃ wm, (w2.drewN m3).alloc (.cells (madeCells #[.bool false] vs.length) 4) = wm := ⟨_, rfl⟩
    have bm : Blk wm w2.heap.size 4 (metC [] vs.length) := by rw [← hwm, metC_made]; exact Blk.new _ _ _
    have hszm : wm.heap.size = w2.heap.size + 1 := by rw [← hwm]; simp
    have hBm : Below w2.heap.size w2 wm := by rw [← hwm]; exact (below_drewN (Below.refl _ _) _).alloc (by simp) _
    have d0 : wm.cell? ⟨w2.heap.size, 0, none⟩ = some (.bool false) := (bm.cell 0).trans (metC_get N0)
    have f0 := bm.frozen 0
    obtain ⟨wq, hwq⟩ : ∃ wq, (wm.setCell ⟨w2.heap.size, 0, none⟩ (.bool true)).alloc (.cells #[.int .i64 0] 2) = wq := ⟨_, rfl⟩
    have bq : Blk wq w2.heap.size 4 (metC [0] vs.length) := by
      rw [← hwq]
      have h9 := (bm.store 0 (.bool true)).alloc (.cells #[.int .i64 0] 2)
      rw [metC_set] at h9
      exact h9
    have hBq : Below w2.heap.size w2 wq := by rw [← hwq]; exact (hBm.setCell (Nat.le_refl _) _).alloc (by simp [World.setCell]; omega) _
    have hOq : Ow wq (w2.heap.size + 1) (.slice (some ⟨w2.heap.size + 1, 0, none⟩) 1 1) [0] := by
      rw [← hwq]
      exact Ow.made' (xs := [0]) _ #[.int .i64 0] (w2.heap.size + 1) 1 (by simpa [World.setCell] using hszm) rfl (Nat.le_refl _) rfl (by unfold maxLen; omega)
    have HS := hide (Qs.start (Ar os) xs)
    have HI6 := hide (show ∀ (q : List Int) (i k : Nat), Qs (Ar os) xs q i k → ∀ y ∈ q, i64ok y from fun q i k hq y hy => by
      have := (hq.gen y hy).rng HR.out (by omega)
      exact ⟨by omega, by omega⟩)
    have HB2 := hide hb2
    clear hmk
    have hmk := HMK.out ((w2.drewN m3))
    clear hb2
    go_wp2_with fail
    clear hmk hwm hwq bm hszm hBm d0 f0
    go_loopw [8, 9] (fun o i wr => ∃ (k : Nat) (q : List Int) (vv : Value), k ≤ q.length ∧ i = .int .i64 k ∧ vv = o ∧ Qs (Ar os) xs q k 0 ∧ Ow wr (w2.heap.size + 1) vv q ∧ Blk wr w2.heap.size 4 (metC q vs.length) ∧ Below w2.heap.size w2 wr) (fun _ i _ => vs.length - (intOf i).toNat)
    case atStart => exact ⟨0, [0], _, by simp, rfl, rfl, HS.out, hOq, bq, hBq⟩
    case round =>
      clear hOq bq hBq HS
      obtain ⟨k, q, vv, hk, rfl, rfl, hQ, hO, bq, hBe⟩ := hrel
      have hqN := hQ.len HR.out N0
      have HQ := hide hQ
      clear hQ
      obtain ⟨vA, vc, rfl⟩ := hO.val
      by_cases hlt : k < q.length
      · go_wp2_with fail
        go_loopw [8, 10] (fun o i wr => ∃ (j : Nat) (q : List Int) (vv : Value), j ≤ xs.length ∧ i = .int .i64 j ∧ vv = o ∧ k < q.length ∧ Qs (Ar os) xs q k j ∧ Ow wr (w2.heap.size + 1) vv q ∧ Blk wr w2.heap.size 4 (metC q vs.length) ∧ Below w2.heap.size w2 wr) (fun _ i _ => xs.length - (intOf i).toNat)
        case atStart => exact ⟨0, q, _, by omega, rfl, rfl, hlt, HQ.out, hO, bq, hBe⟩
        case round =>
          clear hO hBe HQ hlt hqN hk bq
          obtain ⟨j, q, vv, hj, rfl, rfl, hkq, hQ, hO, bq, hBe⟩ := hrel
          have hqN := hQ.len HR.out N0
          have hq6 := hide (HI6.out _ _ _ hQ)
          have HQ := hide hQ
          clear hQ
          by_cases hlj : j < xs.length
          · obtain ⟨b, off, rfl, hb, hc⟩ := hxs.at_ (by omega)
            have c1 := hc j hlj
            clear hc
            obtain ⟨x0, x1⟩ := HI2.out _ (gi_mem hlj)
            obtain ⟨x, ex⟩ : ∃ x, gi xs j = x := ⟨_, rfl⟩
            obtain ⟨a, ea⟩ : ∃ a, gi q k = a := ⟨_, rfl⟩
            have hMt := hide (fun hm => HQ.out.met (k := j) (i := k) hm)
            have hPu := hide (fun hm => HQ.out.push hkq hlj hm)
            have ha := (HQ.out.gen _ (gi_mem hkq)).rng HR.out (by omega)
            rw [ex, ea] at hMt hPu
            rw [ea] at ha
            rw [ex] at c1 x0 x1
            have hm1 := wr64 x ⟨by omega, by omega⟩
            rcases hO.form with ⟨_, e2⟩ | ⟨g, cap, rfl, hg, hgl, hcap⟩
            · exact absurd hkq (by rw [e2]; simp)
            have cg := hO.cell rfl hkq
            rw [ea] at cg
            clear ex ea
            have hB0 := hBe
            have hBW := HB2.out.trans (hBe.mono hsz2.out)
            have hz0 : w.heap.size < wr.heap.size := Nat.lt_of_lt_of_le hszW hBW.size
            have hbR : b < wr.heap.size := Nat.lt_of_lt_of_le hb hBW.size
            have y0 := (hBW.cell (p := ⟨w.heap.size, 0, none⟩) hszW).trans q0
            have c2 := (hBW.cell (p := ⟨b, off + j, none⟩) hb).trans c1
            have yr := HR.out a x
            obtain ⟨y, ey⟩ : ∃ y : Nat, Ar os a x = (y : Int) := ⟨(Ar os a x).toNat, by omega⟩
            have hadd := fun W' h' => l10Add_any W' w2.heap.size A n c os a x h' hG (by omega) (by omega) x0 (by omega)
            rw [ey] at hadd hMt hPu yr
            have hsl := fun W' (h' : Below w2.heap.size w2 W') => hs2.below h'
            have hyN : y < vs.length := by omega
            have bg := bq.both y _ (metC_get hyN)
            obtain ⟨g1, g2⟩ := bg
            have hszq := bq.lt
            clear c1 ey
            go_wp2_with fail
            refine wp_region_be [0, 1, 2, 3, 4, 5, 6, 7, 8, 9, 10, 11] 11 wr.heap.size wr (by kernel_rfl) (by kernel_rfl) (by kernel_rfl) (fun _ _ _ _ _ h => h) (Below.refl _ _) (fun wd hBe => ?_)
            repeat (first | (apply ord_tk rfl (by rfl) (by rfl) (by rfl); (focus (intro wx hSw; have r0 := (hSw.cell (p := ⟨w.heap.size, 0, none⟩) hz0).trans y0; have r2 := (hSw.cell (p := ⟨b, off + j, none⟩) hbR).trans c2; have r3 := (hSw.cell (p := ⟨g, k, none⟩) hgl).trans cg; go_simp; (try with_reducible rfl))); (try simp only [Act.put, List.setIfInBounds_toArray, List.set_cons_zero, List.set_cons_succ])) | (apply ord_skip rfl (by rfl) (by rfl) (fun _ => hBe); (try simp only [Act.put, List.setIfInBounds_toArray, List.set_cons_zero, List.set_cons_succ])))
            refine ord_do rfl (by rfl) (by rfl) (fun K hK => ?_)
            go_simp
            refine ((hadd _ (hsl _ (hB0.trans (hBe.mono hB0.size)))).mono fun _ _ h => Qt.re h).mono ?_
            rintro e wd' ⟨rfl, hwd⟩
            replace hBe := hBe.trans (hwd.mono hBe.size)
            clear hwd
            refine hK.out _ _ (fun _ => hBe) ?_
            (try simp only [Act.put, List.setIfInBounds_toArray, List.set_cons_zero, List.set_cons_succ])
            clear hK K
            repeat (first | (apply ord_tk rfl (by rfl) (by rfl) (by rfl); (focus (intro wx hSw; have r0 := hz0; go_simp; (try with_reducible rfl))); (try simp only [Act.put, List.setIfInBounds_toArray, List.set_cons_zero, List.set_cons_succ])) | (apply ord_skip rfl (by rfl) (by rfl) (fun _ => hBe); (try simp only [Act.put, List.setIfInBounds_toArray, List.set_cons_zero, List.set_cons_succ])))
            refine ord_do rfl (by rfl) (by rfl) (fun K hK => ?_)
            go_simp
            refine hK.out _ _ (fun h => absurd h (by omega)) ?_
            (try simp only [Act.put, List.setIfInBounds_toArray, List.set_cons_zero, List.set_cons_succ])
            clear hK K
            refine ord_nil ?_
            replace hO := hO.below hBe
            replace bq := bq.all hBe
            replace hBe := hB0.trans (hBe.mono hB0.size)
            clear hB0 y0 c2 cg hz0 g1 g2 hBW hbR hgl hszq
            obtain ⟨g1, g2⟩ := bq.both y _ (metC_get hyN)
            by_cases hm : (y : Int) ∈ q
            · rw [bnot_mem_t hm] at g1
              have hQ' := hide (hMt.out hm)
              clear hm
              go_wp2_with fail
              go_roundw
              case rel => exact ⟨j + 1, q, _, by omega, by go_num, rfl, hkq, hQ'.out, hO, bq, hBe⟩
              case measure => simp [intOf] <;> omega
            · rw [bnot_mem_f hm] at g1
              have hQ' := hide (hPu.out hm)
              clear hm
              obtain ⟨ws, hws⟩ : ∃ ws, wd'.setCell ⟨w2.heap.size, y, none⟩ (.bool true) = ws := ⟨_, rfl⟩
              have hOs : Ow ws (w2.heap.size + 1) (.slice (some ⟨g, 0, none⟩) q.length cap) q := by rw [← hws]; exact hO.setCell bq (by decide) y _
              have bs : Blk ws w2.heap.size 4 (metC (q ++ [(y : Int)]) vs.length) := by rw [← hws, ← metC_set]; exact bq.store y _
              have hBs : Below w2.heap.size w2 ws := by rw [← hws]; exact hBe.setCell (Nat.le_refl _) _
              have hszs : w2.heap.size < ws.heap.size := bs.lt
              clear hO bq hBe
              go_wp2_with (at_builtin; refine list_push _ rfl _ _ rfl (w2.heap.size + 1) _ _ rfl (hOs.alloc _) (y : Int) _ _ rfl (Blk.new _ _ _) (by omega) (by simp; omega) (by simp) ?_; intro g' cap' w4 hP4)
              clear hws g1 g2
              go_roundw
              case rel => exact ⟨j + 1, _, _, by omega, by go_num, rfl, by simp; omega, hQ'.out, hP4.own, hP4.blk (hOs.alloc _) (bs.alloc _) (by decide), (hBs.alloc hBs.size _).trans ((hP4.below (hOs.alloc _) (by simp; omega)).mono (by omega))⟩
              case measure => simp [intOf] <;> omega
          · obtain rfl : j = xs.length := by omega
            have hR := hide HQ.out.row
            go_wp2_with fail
            go_roundw
            case rel => exact ⟨k + 1, q, _, by omega, by go_num, rfl, hR.out, hO, bq, hBe⟩
            case measure => simp [intOf] <;> omega
      · obtain rfl : k = q.length := by omega
        obtain ⟨w5, rfl⟩ : ∃ w5, w5 = wr := ⟨_, rfl⟩
        have hE := hide (hldL_gen (N := vs.length) HQ.out (Nat.le_refl _))
        have hOz : Ow (w5.alloc (.cells #[] 2)) w5.heap.size (.slice (some ⟨w5.heap.size, 0, none⟩) 0 0) [] := Ow.made' (xs := []) w5 #[] w5.heap.size 0 rfl rfl (Nat.le_refl _) rfl (by unfold maxLen; omega)
        have bz := bq.alloc (.cells #[] 2)
        have hBz : Below w5.heap.size w5 (w5.alloc (.cells #[] 2)) := (Below.refl _ _).alloc (Nat.le_refl _) _
        have H0 := hide (show hldL q 0 = [] from rfl)
        have hlq := bq.lt
        go_wp2_with fail
        go_loopw [12, 13] (fun o i wx => ∃ (x : Nat) (vv : Value), x ≤ vs.length ∧ i = .int .i64 x ∧ vv = o ∧ Ow wx w5.heap.size vv (hldL q x) ∧ Below w5.heap.size w5 wx) (fun _ i _ => vs.length - (intOf i).toNat)
        case atStart => exact ⟨0, _, by omega, rfl, rfl, by rw [H0.out]; exact hOz, hBz⟩
        case round =>
          clear hOz bz hBz
          obtain ⟨x, vv, hx16, rfl, rfl, hOx, hBx⟩ := hrel
          by_cases hlx : x < vs.length
          · have g1 := (bq.below hBx hlq).cell x
            rw [metC_get hlx] at g1
            cases hv : hasB q (x : Int) with
            | true =>
              have hT := hide (hldL_t hv)
              have hll := hldL_len q x
              rw [hv] at g1
              clear hv
              go_wp2_with (at_builtin; refine list_push _ rfl _ _ rfl w5.heap.size _ _ rfl (hOx.alloc _) (x : Int) _ _ rfl (Blk.new _ _ _) (by omega) (by have := hBx.size; simp; omega) (by simp) ?_; intro g' cap' w4 hP4)
              go_roundw
              case rel => exact ⟨x + 1, _, by omega, by go_num, rfl, by rw [hT.out]; exact hP4.own, (hBx.alloc hBx.size _).trans (hP4.below (hOx.alloc _) (by have := hBx.size; simp; omega))⟩
              case measure => simp [intOf] <;> omega
            | false =>
              have hT := hide (hldL_f hv)
              rw [hv] at g1
              clear hv
              go_wp2_with fail
              go_roundw
              case rel => exact ⟨x + 1, _, by omega, by go_num, rfl, by rw [hT.out]; exact hOx, hBx⟩
              case measure => simp [intOf] <;> omega
          · obtain rfl : x = vs.length := by omega
            have hBW := HB2.out.trans (hBe.mono hsz2.out)
            have hzW := hBW.size
            rw [hE.out] at hOx
            go_wp2_with fail
            refine bodyPost_ret (v := .tuple #[vv, .int .i64 0]) (by simp [results, Tryz.results42, go_sem]) rfl ?_
            exact ⟨_, by rw [hC.out], by rw [hV.out]; exact hOx.less (by omega), hbW.trans ((hBW.trans (hBx.mono hzW)).mono (Nat.le_of_lt hszW))⟩
  · have hV := hide (show sgfL os D vs xs = [] by unfold sgfL; rw [hk, if_neg hk0])
    have hkb' : (k != 0) = true := by simpa using hk0
    have hC := hide hk
    clear hk
    go_enter Tryz.func42, Tryz.ntmps42
    go_wp2_with fail
    obtain ⟨W, hW⟩ : ∃ W, w.alloc (.cells #[.slice A n c, .int .i64 D, .slice A' vs.length c'] 26) = W := ⟨_, rfl⟩
    have hbW : Below w.heap.size w W := by rw [← hW]; exact (by repeat (first | assumption | exact Below.refl _ _ | apply below_drewN | apply Below.drew | apply Below.alloc | apply Below.setCell | omega | (focus (simp; done)) | (focus (simp; omega))))
    have hszW : w.heap.size < W.heap.size := by rw [← hW]; simp
    have hsW := hide (show W.heap.size = w.heap.size + 1 by rw [← hW]; simp)
    have bM : Blk W w.heap.size 26 #[.slice A n c, .int .i64 D, .slice A' vs.length c'] := by rw [← hW]; exact Blk.new _ _ _
    have q0 : W.cell? ⟨w.heap.size, 0, none⟩ = some (.slice A n c) := by rw [← hW]; exact (Blk.new _ _ _).cell 0
    have q1 : W.cell? ⟨w.heap.size, 1, none⟩ = some (.int .i64 D) := by rw [← hW]; exact (Blk.new _ _ _).cell 1
    have q2 : W.cell? ⟨w.heap.size, 2, none⟩ = some (.slice A' vs.length c') := by rw [← hW]; exact (Blk.new _ _ _).cell 2
    rw [hW]
    clear hW
    have hs := (h.below hbW).more (Nat.le_of_lt hszW)
    have hs' := (h'.below hbW).more (Nat.le_of_lt hszW)
    have hxs := (hx.below hbW).more (Nat.le_of_lt hszW)
    refine (hcode _ _ _ _ _ _ _ _ _ _ hs hs' hxs hn hn' hl).mono ?_
    rintro e w2 ⟨rfl, hb2⟩
    have r0 := (hb2.cell (p := ⟨w.heap.size, 0, none⟩) hszW).trans q0
    have r1 := (hb2.cell (p := ⟨w.heap.size, 1, none⟩) hszW).trans q1
    have r2 := (hb2.cell (p := ⟨w.heap.size, 2, none⟩) hszW).trans q2
    have hs2 := (hs.below hb2).more hb2.size
    have hs2' := (hs'.below hb2).more hb2.size
    have hxs2 := (hxs.below hb2).more hb2.size
    go_wp2_with fail
    clear r0 r1 r2
    refine bodyPost_ret (v := .tuple #[.slice none 0 0, .int .i64 k]) (by simp [results, Tryz.results42, go_sem]) rfl ?_
    exact ⟨_, by rw [hC.out], by rw [hV.out]; exact Ow.nil _ _, hbW.trans (hb2.mono (Nat.le_of_lt hszW))⟩

noncomputable def sgB (os : List Int) (D : Int) (vs xs : List Int) : Bool := decide (codeL os D vs xs = 0) && clB os xs
noncomputable def isB (os : List Int) (D : Int) (vs xs : List Int) : Bool := decide (codeS os D vs xs = 0) && isoB vs xs
noncomputable def ogL (os : List Int) (D : Int) (vs xs : List Int) : List Int := if codeS os D vs xs = 0 then ortL os D vs xs vs.length else []
set_option maxHeartbeats 2000000 in
theorem spec_Sub_any (w : World) (A : Option Addr) (n c : Nat) (os : List Int) (D : Int) (A' : Option Addr) (n' c' : Nat) (vs : List Int) (L : Option Addr) (l lc : Nat) (xs : List Int)
    (h : Sl w w.heap.size A n c os) (h' : Sl w w.heap.size A' n' c' vs) (hx : Sl w w.heap.size L l lc xs) (hn : n ≤ 1048576) (hn' : n' ≤ 1048576) (hl : l ≤ 1048576) :
    Calls Tryz.prog 38 #[.agg #[.slice A n c, .int .i64 D, .slice A' n' c'], .slice L l lc] w (ReB w (sgB os D vs xs) (codeL os D vs xs)) := by
  obtain rfl := h'.len
  obtain rfl := hx.len
  have hcode := fun W A n c A' n' c' LL l lc => l11List_any W A n c os D A' n' c' vs LL l lc xs
  obtain ⟨k, hk⟩ : ∃ k, codeL os D vs xs = k := ⟨_, rfl⟩
  rw [hk] at hcode
  by_cases hk0 : k = 0
  · subst hk0
    obtain ⟨hM, hI⟩ := codeL_0 hk
    have hG := hM.ok.g
    have HI := hide hI
    obtain ⟨b, hb⟩ : ∃ b, clB os xs = b := ⟨_, rfl⟩
    have hV := hide (show sgB os D vs xs = b by unfold sgB; rw [hk, hb]; rfl)
    have hC := hide hk
    clear hk
    go_enter Tryz.func38, Tryz.ntmps38
    go_wp2_with fail
    obtain ⟨W, hW⟩ : ∃ W, w.alloc (.cells #[.slice A n c, .int .i64 D, .slice A' vs.length c'] 26) = W := ⟨_, rfl⟩
    have hbW : Below w.heap.size w W := by rw [← hW]; exact (by repeat (first | assumption | exact Below.refl _ _ | apply below_drewN | apply Below.drew | apply Below.alloc | apply Below.setCell | omega | (focus (simp; done)) | (focus (simp; omega))))
    have hszW : w.heap.size < W.heap.size := by rw [← hW]; simp
    have hsW := hide (show W.heap.size = w.heap.size + 1 by rw [← hW]; simp)
    have bM : Blk W w.heap.size 26 #[.slice A n c, .int .i64 D, .slice A' vs.length c'] := by rw [← hW]; exact Blk.new _ _ _
    have q0 : W.cell? ⟨w.heap.size, 0, none⟩ = some (.slice A n c) := by rw [← hW]; exact (Blk.new _ _ _).cell 0
    have q1 : W.cell? ⟨w.heap.size, 1, none⟩ = some (.int .i64 D) := by rw [← hW]; exact (Blk.new _ _ _).cell 1
    have q2 : W.cell? ⟨w.heap.size, 2, none⟩ = some (.slice A' vs.length c') := by rw [← hW]; exact (Blk.new _ _ _).cell 2
    rw [hW]
    clear hW
    have hs := (h.below hbW).more (Nat.le_of_lt hszW)
    have hs' := (h'.below hbW).more (Nat.le_of_lt hszW)
    have hxs := (hx.below hbW).more (Nat.le_of_lt hszW)
    refine (hcode _ _ _ _ _ _ _ _ _ _ hs hs' hxs hn hn' hl).mono ?_
    rintro e w2 ⟨rfl, hb2⟩
    have r0 := (hb2.cell (p := ⟨w.heap.size, 0, none⟩) hszW).trans q0
    have r1 := (hb2.cell (p := ⟨w.heap.size, 1, none⟩) hszW).trans q1
    have r2 := (hb2.cell (p := ⟨w.heap.size, 2, none⟩) hszW).trans q2
    have hs2 := (hs.below hb2).more hb2.size
    have hs2' := (hs'.below hb2).more hb2.size
    have hxs2 := (hxs.below hb2).more hb2.size
    go_wp2_with fail
    clear r0 r1 r2
    refine (l11Closed_any _ _ _ _ _ _ _ _ _ _ _ _ _ hs2 hxs2 hG HI.out).mono ?_
    rw [hb]
    rintro e w3 ⟨rfl, hb3⟩
    have k3 := hb2.trans (hb3.mono hb2.size)
    clear hb
    go_wp2
    refine bodyPost_ret (v := .tuple #[.bool b, .int .i64 0]) (by simp [results, Tryz.results38, go_sem]) rfl ?_
    exact ⟨by rw [hV.out, hC.out], hbW.trans (k3.mono (Nat.le_of_lt hszW))⟩
  · have hV := hide (show sgB os D vs xs = false by unfold sgB; rw [hk]; simp [hk0])
    have hkb' : (k != 0) = true := by simpa using hk0
    have hC := hide hk
    clear hk
    go_enter Tryz.func38, Tryz.ntmps38
    go_wp2_with fail
    obtain ⟨W, hW⟩ : ∃ W, w.alloc (.cells #[.slice A n c, .int .i64 D, .slice A' vs.length c'] 26) = W := ⟨_, rfl⟩
    have hbW : Below w.heap.size w W := by rw [← hW]; exact (by repeat (first | assumption | exact Below.refl _ _ | apply below_drewN | apply Below.drew | apply Below.alloc | apply Below.setCell | omega | (focus (simp; done)) | (focus (simp; omega))))
    have hszW : w.heap.size < W.heap.size := by rw [← hW]; simp
    have hsW := hide (show W.heap.size = w.heap.size + 1 by rw [← hW]; simp)
    have bM : Blk W w.heap.size 26 #[.slice A n c, .int .i64 D, .slice A' vs.length c'] := by rw [← hW]; exact Blk.new _ _ _
    have q0 : W.cell? ⟨w.heap.size, 0, none⟩ = some (.slice A n c) := by rw [← hW]; exact (Blk.new _ _ _).cell 0
    have q1 : W.cell? ⟨w.heap.size, 1, none⟩ = some (.int .i64 D) := by rw [← hW]; exact (Blk.new _ _ _).cell 1
    have q2 : W.cell? ⟨w.heap.size, 2, none⟩ = some (.slice A' vs.length c') := by rw [← hW]; exact (Blk.new _ _ _).cell 2
    rw [hW]
    clear hW
    have hs := (h.below hbW).more (Nat.le_of_lt hszW)
    have hs' := (h'.below hbW).more (Nat.le_of_lt hszW)
    have hxs := (hx.below hbW).more (Nat.le_of_lt hszW)
    refine (hcode _ _ _ _ _ _ _ _ _ _ hs hs' hxs hn hn' hl).mono ?_
    rintro e w2 ⟨rfl, hb2⟩
    have r0 := (hb2.cell (p := ⟨w.heap.size, 0, none⟩) hszW).trans q0
    have r1 := (hb2.cell (p := ⟨w.heap.size, 1, none⟩) hszW).trans q1
    have r2 := (hb2.cell (p := ⟨w.heap.size, 2, none⟩) hszW).trans q2
    have hs2 := (hs.below hb2).more hb2.size
    have hs2' := (hs'.below hb2).more hb2.size
    have hxs2 := (hxs.below hb2).more hb2.size
    go_wp2_with fail
    clear r0 r1 r2
    refine bodyPost_ret (v := .tuple #[.bool false, .int .i64 k]) (by simp [results, Tryz.results38, go_sem]) rfl ?_
    exact ⟨by rw [hV.out, hC.out], hbW.trans (hb2.mono (Nat.le_of_lt hszW))⟩
set_option maxHeartbeats 2000000 in
theorem impl_Sub_any (w : World) (A : Option Addr) (n c : Nat) (os : List Int) (D : Int) (A' : Option Addr) (n' c' : Nat) (vs : List Int) (L : Option Addr) (l lc : Nat) (xs : List Int)
    (h : Sl w w.heap.size A n c os) (h' : Sl w w.heap.size A' n' c' vs) (hx : Sl w w.heap.size L l lc xs) (hn : n ≤ 1048576) (hn' : n' ≤ 1048576) (hl : l ≤ 1048576) :
    Calls Tryz.prog 37 #[.agg #[.slice A n c, .int .i64 D, .slice A' n' c'], .slice L l lc] w (ReB w (sgB os D vs xs) (codeL os D vs xs)) := by
  obtain rfl := h'.len
  obtain rfl := hx.len
  have hcode := fun W A n c A' n' c' LL l lc => listCode_any W A n c os D A' n' c' vs LL l lc xs
  obtain ⟨k, hk⟩ : ∃ k, codeL os D vs xs = k := ⟨_, rfl⟩
  rw [hk] at hcode
  by_cases hk0 : k = 0
  · subst hk0
    obtain ⟨hM, hI⟩ := codeL_0 hk
    have hG := hM.ok.g
    have HI := hide hI
    obtain ⟨b, hb⟩ : ∃ b, clB os xs = b := ⟨_, rfl⟩
    have hV := hide (show sgB os D vs xs = b by unfold sgB; rw [hk, hb]; rfl)
    have hC := hide hk
    clear hk
    go_enter Tryz.func37, Tryz.ntmps37
    go_wp2_with fail
    obtain ⟨W, hW⟩ : ∃ W, w.alloc (.cells #[.slice A n c, .int .i64 D, .slice A' vs.length c'] 26) = W := ⟨_, rfl⟩
    have hbW : Below w.heap.size w W := by rw [← hW]; exact (by repeat (first | assumption | exact Below.refl _ _ | apply below_drewN | apply Below.drew | apply Below.alloc | apply Below.setCell | omega | (focus (simp; done)) | (focus (simp; omega))))
    have hszW : w.heap.size < W.heap.size := by rw [← hW]; simp
    have hsW := hide (show W.heap.size = w.heap.size + 1 by rw [← hW]; simp)
    have bM : Blk W w.heap.size 26 #[.slice A n c, .int .i64 D, .slice A' vs.length c'] := by rw [← hW]; exact Blk.new _ _ _
    have q0 : W.cell? ⟨w.heap.size, 0, none⟩ = some (.slice A n c) := by rw [← hW]; exact (Blk.new _ _ _).cell 0
    have q1 : W.cell? ⟨w.heap.size, 1, none⟩ = some (.int .i64 D) := by rw [← hW]; exact (Blk.new _ _ _).cell 1
    have q2 : W.cell? ⟨w.heap.size, 2, none⟩ = some (.slice A' vs.length c') := by rw [← hW]; exact (Blk.new _ _ _).cell 2
    rw [hW]
    clear hW
    have hs := (h.below hbW).more (Nat.le_of_lt hszW)
    have hs' := (h'.below hbW).more (Nat.le_of_lt hszW)
    have hxs := (hx.below hbW).more (Nat.le_of_lt hszW)
    refine (hcode _ _ _ _ _ _ _ _ _ _ hs hs' hxs hn hn' hl).mono ?_
    rintro e w2 ⟨rfl, hb2⟩
    have r0 := (hb2.cell (p := ⟨w.heap.size, 0, none⟩) hszW).trans q0
    have r1 := (hb2.cell (p := ⟨w.heap.size, 1, none⟩) hszW).trans q1
    have r2 := (hb2.cell (p := ⟨w.heap.size, 2, none⟩) hszW).trans q2
    have hs2 := (hs.below hb2).more hb2.size
    have hs2' := (hs'.below hb2).more hb2.size
    have hxs2 := (hxs.below hb2).more hb2.size
    go_wp2_with fail
    clear r0 r1 r2
    refine (isSubgroup_any _ _ _ _ _ _ _ _ _ hs2 hxs2 hG HI.out).mono ?_
    rw [hb]
    rintro e w3 ⟨rfl, hb3⟩
    have k3 := hb2.trans (hb3.mono hb2.size)
    clear hb
    go_wp2
    refine bodyPost_ret (v := .tuple #[.bool b, .int .i64 0]) (by simp [results, Tryz.results37, go_sem]) rfl ?_
    exact ⟨by rw [hV.out, hC.out], hbW.trans (k3.mono (Nat.le_of_lt hszW))⟩
  · have hV := hide (show sgB os D vs xs = false by unfold sgB; rw [hk]; simp [hk0])
    have hkb' : (k != 0) = true := by simpa using hk0
    have hC := hide hk
    clear hk
    go_enter Tryz.func37, Tryz.ntmps37
    go_wp2_with fail
    obtain ⟨W, hW⟩ : ∃ W, w.alloc (.cells #[.slice A n c, .int .i64 D, .slice A' vs.length c'] 26) = W := ⟨_, rfl⟩
    have hbW : Below w.heap.size w W := by rw [← hW]; exact (by repeat (first | assumption | exact Below.refl _ _ | apply below_drewN | apply Below.drew | apply Below.alloc | apply Below.setCell | omega | (focus (simp; done)) | (focus (simp; omega))))
    have hszW : w.heap.size < W.heap.size := by rw [← hW]; simp
    have hsW := hide (show W.heap.size = w.heap.size + 1 by rw [← hW]; simp)
    have bM : Blk W w.heap.size 26 #[.slice A n c, .int .i64 D, .slice A' vs.length c'] := by rw [← hW]; exact Blk.new _ _ _
    have q0 : W.cell? ⟨w.heap.size, 0, none⟩ = some (.slice A n c) := by rw [← hW]; exact (Blk.new _ _ _).cell 0
    have q1 : W.cell? ⟨w.heap.size, 1, none⟩ = some (.int .i64 D) := by rw [← hW]; exact (Blk.new _ _ _).cell 1
    have q2 : W.cell? ⟨w.heap.size, 2, none⟩ = some (.slice A' vs.length c') := by rw [← hW]; exact (Blk.new _ _ _).cell 2
    rw [hW]
    clear hW
    have hs := (h.below hbW).more (Nat.le_of_lt hszW)
    have hs' := (h'.below hbW).more (Nat.le_of_lt hszW)
    have hxs := (hx.below hbW).more (Nat.le_of_lt hszW)
    refine (hcode _ _ _ _ _ _ _ _ _ _ hs hs' hxs hn hn' hl).mono ?_
    rintro e w2 ⟨rfl, hb2⟩
    have r0 := (hb2.cell (p := ⟨w.heap.size, 0, none⟩) hszW).trans q0
    have r1 := (hb2.cell (p := ⟨w.heap.size, 1, none⟩) hszW).trans q1
    have r2 := (hb2.cell (p := ⟨w.heap.size, 2, none⟩) hszW).trans q2
    have hs2 := (hs.below hb2).more hb2.size
    have hs2' := (hs'.below hb2).more hb2.size
    have hxs2 := (hxs.below hb2).more hb2.size
    go_wp2_with fail
    clear r0 r1 r2
    refine bodyPost_ret (v := .tuple #[.bool false, .int .i64 k]) (by simp [results, Tryz.results37, go_sem]) rfl ?_
    exact ⟨by rw [hV.out, hC.out], hbW.trans (hb2.mono (Nat.le_of_lt hszW))⟩
set_option maxHeartbeats 2000000 in
theorem spec_Iso_any (w : World) (A : Option Addr) (n c : Nat) (os : List Int) (D : Int) (A' : Option Addr) (n' c' : Nat) (vs : List Int) (L : Option Addr) (l lc : Nat) (xs : List Int)
    (h : Sl w w.heap.size A n c os) (h' : Sl w w.heap.size A' n' c' vs) (hx : Sl w w.heap.size L l lc xs) (hn : n ≤ 1048576) (hn' : n' ≤ 1048576) (hl : l ≤ 1048576) :
    Calls Tryz.prog 11 #[.agg #[.slice A n c, .int .i64 D, .slice A' n' c'], .slice L l lc] w (ReB w (isB os D vs xs) (codeS os D vs xs)) := by
  obtain rfl := h'.len
  obtain rfl := hx.len
  have hcode := fun W A n c A' n' c' LL l lc => l11Code_any W A n c os D A' n' c' vs LL l lc xs
  obtain ⟨k, hk⟩ : ∃ k, codeS os D vs xs = k := ⟨_, rfl⟩
  rw [hk] at hcode
  by_cases hk0 : k = 0
  · subst hk0
    obtain ⟨hM, hI, -⟩ := codeS_0 hk
    have hG := hM.ok.g
    have HM := hide hI.mem
    have HMv := hide (show ∀ x ∈ xs, 0 ≤ x ∧ x < (vs.length : Int) by rw [hM.ok.len]; exact hI.mem)
    obtain ⟨b, hb⟩ : ∃ b, isoB vs xs = b := ⟨_, rfl⟩
    have hV := hide (show isB os D vs xs = b by unfold isB; rw [hk, hb]; rfl)
    have hC := hide hk
    clear hk
    go_enter Tryz.func11, Tryz.ntmps11
    go_wp2_with fail
    obtain ⟨W, hW⟩ : ∃ W, w.alloc (.cells #[.slice A n c, .int .i64 D, .slice A' vs.length c'] 26) = W := ⟨_, rfl⟩
    have hbW : Below w.heap.size w W := by rw [← hW]; exact (by repeat (first | assumption | exact Below.refl _ _ | apply below_drewN | apply Below.drew | apply Below.alloc | apply Below.setCell | omega | (focus (simp; done)) | (focus (simp; omega))))
    have hszW : w.heap.size < W.heap.size := by rw [← hW]; simp
    have hsW := hide (show W.heap.size = w.heap.size + 1 by rw [← hW]; simp)
    have bM : Blk W w.heap.size 26 #[.slice A n c, .int .i64 D, .slice A' vs.length c'] := by rw [← hW]; exact Blk.new _ _ _
    have q0 : W.cell? ⟨w.heap.size, 0, none⟩ = some (.slice A n c) := by rw [← hW]; exact (Blk.new _ _ _).cell 0
    have q1 : W.cell? ⟨w.heap.size, 1, none⟩ = some (.int .i64 D) := by rw [← hW]; exact (Blk.new _ _ _).cell 1
    have q2 : W.cell? ⟨w.heap.size, 2, none⟩ = some (.slice A' vs.length c') := by rw [← hW]; exact (Blk.new _ _ _).cell 2
    rw [hW]
    clear hW
    have hs := (h.below hbW).more (Nat.le_of_lt hszW)
    have hs' := (h'.below hbW).more (Nat.le_of_lt hszW)
    have hxs := (hx.below hbW).more (Nat.le_of_lt hszW)
    refine (hcode _ _ _ _ _ _ _ _ _ _ hs hs' hxs hn hn' hl).mono ?_
    rintro e w2 ⟨rfl, hb2⟩
    have r0 := (hb2.cell (p := ⟨w.heap.size, 0, none⟩) hszW).trans q0
    have r1 := (hb2.cell (p := ⟨w.heap.size, 1, none⟩) hszW).trans q1
    have r2 := (hb2.cell (p := ⟨w.heap.size, 2, none⟩) hszW).trans q2
    have hs2 := (hs.below hb2).more hb2.size
    have hs2' := (hs'.below hb2).more hb2.size
    have hxs2 := (hxs.below hb2).more hb2.size
    go_wp2_with fail
    clear r0 r1 r2
    refine (l11Isotropic_any _ _ _ _ os _ _ _ _ _ _ _ _ _ hs2' hxs2 hn' hl HMv.out).mono ?_
    rw [hb]
    rintro e w3 ⟨rfl, hb3⟩
    have k3 := hb2.trans (hb3.mono hb2.size)
    clear hb
    go_wp2
    refine bodyPost_ret (v := .tuple #[.bool b, .int .i64 0]) (by simp [results, Tryz.results11, go_sem]) rfl ?_
    exact ⟨by rw [hV.out, hC.out], hbW.trans (k3.mono (Nat.le_of_lt hszW))⟩
  · have hV := hide (show isB os D vs xs = false by unfold isB; rw [hk]; simp [hk0])
    have hkb' : (k != 0) = true := by simpa using hk0
    have hC := hide hk
    clear hk
    go_enter Tryz.func11, Tryz.ntmps11
    go_wp2_with fail
    obtain ⟨W, hW⟩ : ∃ W, w.alloc (.cells #[.slice A n c, .int .i64 D, .slice A' vs.length c'] 26) = W := ⟨_, rfl⟩
    have hbW : Below w.heap.size w W := by rw [← hW]; exact (by repeat (first | assumption | exact Below.refl _ _ | apply below_drewN | apply Below.drew | apply Below.alloc | apply Below.setCell | omega | (focus (simp; done)) | (focus (simp; omega))))
    have hszW : w.heap.size < W.heap.size := by rw [← hW]; simp
    have hsW := hide (show W.heap.size = w.heap.size + 1 by rw [← hW]; simp)
    have bM : Blk W w.heap.size 26 #[.slice A n c, .int .i64 D, .slice A' vs.length c'] := by rw [← hW]; exact Blk.new _ _ _
    have q0 : W.cell? ⟨w.heap.size, 0, none⟩ = some (.slice A n c) := by rw [← hW]; exact (Blk.new _ _ _).cell 0
    have q1 : W.cell? ⟨w.heap.size, 1, none⟩ = some (.int .i64 D) := by rw [← hW]; exact (Blk.new _ _ _).cell 1
    have q2 : W.cell? ⟨w.heap.size, 2, none⟩ = some (.slice A' vs.length c') := by rw [← hW]; exact (Blk.new _ _ _).cell 2
    rw [hW]
    clear hW
    have hs := (h.below hbW).more (Nat.le_of_lt hszW)
    have hs' := (h'.below hbW).more (Nat.le_of_lt hszW)
    have hxs := (hx.below hbW).more (Nat.le_of_lt hszW)
    refine (hcode _ _ _ _ _ _ _ _ _ _ hs hs' hxs hn hn' hl).mono ?_
    rintro e w2 ⟨rfl, hb2⟩
    have r0 := (hb2.cell (p := ⟨w.heap.size, 0, none⟩) hszW).trans q0
    have r1 := (hb2.cell (p := ⟨w.heap.size, 1, none⟩) hszW).trans q1
    have r2 := (hb2.cell (p := ⟨w.heap.size, 2, none⟩) hszW).trans q2
    have hs2 := (hs.below hb2).more hb2.size
    have hs2' := (hs'.below hb2).more hb2.size
    have hxs2 := (hxs.below hb2).more hb2.size
    go_wp2_with fail
    clear r0 r1 r2
    refine bodyPost_ret (v := .tuple #[.bool false, .int .i64 k]) (by simp [results, Tryz.results11, go_sem]) rfl ?_
    exact ⟨by rw [hV.out, hC.out], hbW.trans (hb2.mono (Nat.le_of_lt hszW))⟩
set_option maxHeartbeats 2000000 in
theorem impl_Iso_any (w : World) (A : Option Addr) (n c : Nat) (os : List Int) (D : Int) (A' : Option Addr) (n' c' : Nat) (vs : List Int) (L : Option Addr) (l lc : Nat) (xs : List Int)
    (h : Sl w w.heap.size A n c os) (h' : Sl w w.heap.size A' n' c' vs) (hx : Sl w w.heap.size L l lc xs) (hn : n ≤ 1048576) (hn' : n' ≤ 1048576) (hl : l ≤ 1048576) :
    Calls Tryz.prog 10 #[.agg #[.slice A n c, .int .i64 D, .slice A' n' c'], .slice L l lc] w (ReB w (isB os D vs xs) (codeS os D vs xs)) := by
  obtain rfl := h'.len
  obtain rfl := hx.len
  have hcode := fun W A n c A' n' c' LL l lc => subgroupCode_any W A n c os D A' n' c' vs LL l lc xs
  obtain ⟨k, hk⟩ : ∃ k, codeS os D vs xs = k := ⟨_, rfl⟩
  rw [hk] at hcode
  by_cases hk0 : k = 0
  · subst hk0
    obtain ⟨hM, hI, -⟩ := codeS_0 hk
    have hG := hM.ok.g
    have HM := hide hI.mem
    have HMv := hide (show ∀ x ∈ xs, 0 ≤ x ∧ x < (vs.length : Int) by rw [hM.ok.len]; exact hI.mem)
    obtain ⟨b, hb⟩ : ∃ b, isoB vs xs = b := ⟨_, rfl⟩
    have hV := hide (show isB os D vs xs = b by unfold isB; rw [hk, hb]; rfl)
    have hC := hide hk
    clear hk
    go_enter Tryz.func10, Tryz.ntmps10
    go_wp2_with fail
    obtain ⟨W, hW⟩ : ∃ W, w.alloc (.cells #[.slice A n c, .int .i64 D, .slice A' vs.length c'] 26) = W := ⟨_, rfl⟩
    have hbW : Below w.heap.size w W := by rw [← hW]; exact (by repeat (first | assumption | exact Below.refl _ _ | apply below_drewN | apply Below.drew | apply Below.alloc | apply Below.setCell | omega | (focus (simp; done)) | (focus (simp; omega))))
    have hszW : w.heap.size < W.heap.size := by rw [← hW]; simp
    have hsW := hide (show W.heap.size = w.heap.size + 1 by rw [← hW]; simp)
    have bM : Blk W w.heap.size 26 #[.slice A n c, .int .i64 D, .slice A' vs.length c'] := by rw [← hW]; exact Blk.new _ _ _
    have q0 : W.cell? ⟨w.heap.size, 0, none⟩ = some (.slice A n c) := by rw [← hW]; exact (Blk.new _ _ _).cell 0
    have q1 : W.cell? ⟨w.heap.size, 1, none⟩ = some (.int .i64 D) := by rw [← hW]; exact (Blk.new _ _ _).cell 1
    have q2 : W.cell? ⟨w.heap.size, 2, none⟩ = some (.slice A' vs.length c') := by rw [← hW]; exact (Blk.new _ _ _).cell 2
    rw [hW]
    clear hW
    have hs := (h.below hbW).more (Nat.le_of_lt hszW)
    have hs' := (h'.below hbW).more (Nat.le_of_lt hszW)
    have hxs := (hx.below hbW).more (Nat.le_of_lt hszW)
    refine (hcode _ _ _ _ _ _ _ _ _ _ hs hs' hxs hn hn' hl).mono ?_
    rintro e w2 ⟨rfl, hb2⟩
    have r0 := (hb2.cell (p := ⟨w.heap.size, 0, none⟩) hszW).trans q0
    have r1 := (hb2.cell (p := ⟨w.heap.size, 1, none⟩) hszW).trans q1
    have r2 := (hb2.cell (p := ⟨w.heap.size, 2, none⟩) hszW).trans q2
    have hs2 := (hs.below hb2).more hb2.size
    have hs2' := (hs'.below hb2).more hb2.size
    have hxs2 := (hxs.below hb2).more hb2.size
    go_wp2_with fail
    clear r0 r1 r2
    refine (isIsotropic_any _ _ _ _ os _ _ _ _ _ _ _ _ _ hs2' hxs2 hn' hl HMv.out).mono ?_
    rw [hb]
    rintro e w3 ⟨rfl, hb3⟩
    have k3 := hb2.trans (hb3.mono hb2.size)
    clear hb
    go_wp2
    refine bodyPost_ret (v := .tuple #[.bool b, .int .i64 0]) (by simp [results, Tryz.results10, go_sem]) rfl ?_
    exact ⟨by rw [hV.out, hC.out], hbW.trans (k3.mono (Nat.le_of_lt hszW))⟩
  · have hV := hide (show isB os D vs xs = false by unfold isB; rw [hk]; simp [hk0])
    have hkb' : (k != 0) = true := by simpa using hk0
    have hC := hide hk
    clear hk
    go_enter Tryz.func10, Tryz.ntmps10
    go_wp2_with fail
    obtain ⟨W, hW⟩ : ∃ W, w.alloc (.cells #[.slice A n c, .int .i64 D, .slice A' vs.length c'] 26) = W := ⟨_, rfl⟩
    have hbW : Below w.heap.size w W := by rw [← hW]; exact (by repeat (first | assumption | exact Below.refl _ _ | apply below_drewN | apply Below.drew | apply Below.alloc | apply Below.setCell | omega | (focus (simp; done)) | (focus (simp; omega))))
    have hszW : w.heap.size < W.heap.size := by rw [← hW]; simp
    have hsW := hide (show W.heap.size = w.heap.size + 1 by rw [← hW]; simp)
    have bM : Blk W w.heap.size 26 #[.slice A n c, .int .i64 D, .slice A' vs.length c'] := by rw [← hW]; exact Blk.new _ _ _
    have q0 : W.cell? ⟨w.heap.size, 0, none⟩ = some (.slice A n c) := by rw [← hW]; exact (Blk.new _ _ _).cell 0
    have q1 : W.cell? ⟨w.heap.size, 1, none⟩ = some (.int .i64 D) := by rw [← hW]; exact (Blk.new _ _ _).cell 1
    have q2 : W.cell? ⟨w.heap.size, 2, none⟩ = some (.slice A' vs.length c') := by rw [← hW]; exact (Blk.new _ _ _).cell 2
    rw [hW]
    clear hW
    have hs := (h.below hbW).more (Nat.le_of_lt hszW)
    have hs' := (h'.below hbW).more (Nat.le_of_lt hszW)
    have hxs := (hx.below hbW).more (Nat.le_of_lt hszW)
    refine (hcode _ _ _ _ _ _ _ _ _ _ hs hs' hxs hn hn' hl).mono ?_
    rintro e w2 ⟨rfl, hb2⟩
    have r0 := (hb2.cell (p := ⟨w.heap.size, 0, none⟩) hszW).trans q0
    have r1 := (hb2.cell (p := ⟨w.heap.size, 1, none⟩) hszW).trans q1
    have r2 := (hb2.cell (p := ⟨w.heap.size, 2, none⟩) hszW).trans q2
    have hs2 := (hs.below hb2).more hb2.size
    have hs2' := (hs'.below hb2).more hb2.size
    have hxs2 := (hxs.below hb2).more hb2.size
    go_wp2_with fail
    clear r0 r1 r2
    refine bodyPost_ret (v := .tuple #[.bool false, .int .i64 k]) (by simp [results, Tryz.results10, go_sem]) rfl ?_
    exact ⟨by rw [hV.out, hC.out], hbW.trans (hb2.mono (Nat.le_of_lt hszW))⟩
set_option maxHeartbeats 2000000 in
theorem spec_Ort_any (w : World) (A : Option Addr) (n c : Nat) (os : List Int) (D : Int) (A' : Option Addr) (n' c' : Nat) (vs : List Int) (L : Option Addr) (l lc : Nat) (xs : List Int)
    (h : Sl w w.heap.size A n c os) (h' : Sl w w.heap.size A' n' c' vs) (hx : Sl w w.heap.size L l lc xs) (hn : n ≤ 1048576) (hn' : n' ≤ 1048576) (hl : l ≤ 1048576) :
    Calls Tryz.prog 36 #[.agg #[.slice A n c, .int .i64 D, .slice A' n' c'], .slice L l lc] w (MkC w (ogL os D vs xs) (codeS os D vs xs)) := by
  obtain rfl := h'.len
  obtain rfl := hx.len
  have hcode := fun W A n c A' n' c' LL l lc => l11Code_any W A n c os D A' n' c' vs LL l lc xs
  obtain ⟨k, hk⟩ : ∃ k, codeS os D vs xs = k := ⟨_, rfl⟩
  rw [hk] at hcode
  by_cases hk0 : k = 0
  · subst hk0
    obtain ⟨hM, hI, -⟩ := codeS_0 hk
    have hG := hM.ok.g
    have HM := hide hI.mem
    have HMv := hide (show ∀ x ∈ xs, 0 ≤ x ∧ x < (vs.length : Int) by rw [hM.ok.len]; exact hI.mem)
    obtain ⟨b, hb⟩ : ∃ b, ortL os D vs xs vs.length = b := ⟨_, rfl⟩
    have hV := hide (show ogL os D vs xs = b by unfold ogL; rw [hk, if_pos rfl, hb])
    have hC := hide hk
    clear hk
    go_enter Tryz.func36, Tryz.ntmps36
    go_wp2_with fail
    obtain ⟨W, hW⟩ : ∃ W, w.alloc (.cells #[.slice A n c, .int .i64 D, .slice A' vs.length c'] 26) = W := ⟨_, rfl⟩
    have hbW : Below w.heap.size w W := by rw [← hW]; exact (by repeat (first | assumption | exact Below.refl _ _ | apply below_drewN | apply Below.drew | apply Below.alloc | apply Below.setCell | omega | (focus (simp; done)) | (focus (simp; omega))))
    have hszW : w.heap.size < W.heap.size := by rw [← hW]; simp
    have hsW := hide (show W.heap.size = w.heap.size + 1 by rw [← hW]; simp)
    have bM : Blk W w.heap.size 26 #[.slice A n c, .int .i64 D, .slice A' vs.length c'] := by rw [← hW]; exact Blk.new _ _ _
    have q0 : W.cell? ⟨w.heap.size, 0, none⟩ = some (.slice A n c) := by rw [← hW]; exact (Blk.new _ _ _).cell 0
    have q1 : W.cell? ⟨w.heap.size, 1, none⟩ = some (.int .i64 D) := by rw [← hW]; exact (Blk.new _ _ _).cell 1
    have q2 : W.cell? ⟨w.heap.size, 2, none⟩ = some (.slice A' vs.length c') := by rw [← hW]; exact (Blk.new _ _ _).cell 2
    rw [hW]
    clear hW
    have hs := (h.below hbW).more (Nat.le_of_lt hszW)
    have hs' := (h'.below hbW).more (Nat.le_of_lt hszW)
    have hxs := (hx.below hbW).more (Nat.le_of_lt hszW)
    refine (hcode _ _ _ _ _ _ _ _ _ _ hs hs' hxs hn hn' hl).mono ?_
    rintro e w2 ⟨rfl, hb2⟩
    have r0 := (hb2.cell (p := ⟨w.heap.size, 0, none⟩) hszW).trans q0
    have r1 := (hb2.cell (p := ⟨w.heap.size, 1, none⟩) hszW).trans q1
    have r2 := (hb2.cell (p := ⟨w.heap.size, 2, none⟩) hszW).trans q2
    have hs2 := (hs.below hb2).more hb2.size
    have hs2' := (hs'.below hb2).more hb2.size
    have hxs2 := (hxs.below hb2).more hb2.size
    go_wp2_with fail
    clear r0 r1 r2
    refine (l11Orthogonal_any _ _ _ _ _ _ _ _ _ _ _ _ _ _ hs2 hs2' hxs2 hl hM.ok HM.out).mono ?_
    rw [hb]
    rintro e w3 ⟨v, rfl, hO, hb3⟩
    have k3 := hb2.trans (hb3.mono hb2.size)
    have hz2 := hb2.size
    clear hb
    go_wp2
    refine bodyPost_ret (v := .tuple #[v, .int .i64 0]) (by simp [results, Tryz.results36, go_sem]) rfl ?_
    exact ⟨_, by rw [hC.out], by rw [hV.out]; exact hO.less (by omega), hbW.trans (k3.mono (Nat.le_of_lt hszW))⟩
  · have hV := hide (show ogL os D vs xs = [] by unfold ogL; rw [hk, if_neg hk0])
    have hkb' : (k != 0) = true := by simpa using hk0
    have hC := hide hk
    clear hk
    go_enter Tryz.func36, Tryz.ntmps36
    go_wp2_with fail
    obtain ⟨W, hW⟩ : ∃ W, w.alloc (.cells #[.slice A n c, .int .i64 D, .slice A' vs.length c'] 26) = W := ⟨_, rfl⟩
    have hbW : Below w.heap.size w W := by rw [← hW]; exact (by repeat (first | assumption | exact Below.refl _ _ | apply below_drewN | apply Below.drew | apply Below.alloc | apply Below.setCell | omega | (focus (simp; done)) | (focus (simp; omega))))
    have hszW : w.heap.size < W.heap.size := by rw [← hW]; simp
    have hsW := hide (show W.heap.size = w.heap.size + 1 by rw [← hW]; simp)
    have bM : Blk W w.heap.size 26 #[.slice A n c, .int .i64 D, .slice A' vs.length c'] := by rw [← hW]; exact Blk.new _ _ _
    have q0 : W.cell? ⟨w.heap.size, 0, none⟩ = some (.slice A n c) := by rw [← hW]; exact (Blk.new _ _ _).cell 0
    have q1 : W.cell? ⟨w.heap.size, 1, none⟩ = some (.int .i64 D) := by rw [← hW]; exact (Blk.new _ _ _).cell 1
    have q2 : W.cell? ⟨w.heap.size, 2, none⟩ = some (.slice A' vs.length c') := by rw [← hW]; exact (Blk.new _ _ _).cell 2
    rw [hW]
    clear hW
    have hs := (h.below hbW).more (Nat.le_of_lt hszW)
    have hs' := (h'.below hbW).more (Nat.le_of_lt hszW)
    have hxs := (hx.below hbW).more (Nat.le_of_lt hszW)
    refine (hcode _ _ _ _ _ _ _ _ _ _ hs hs' hxs hn hn' hl).mono ?_
    rintro e w2 ⟨rfl, hb2⟩
    have r0 := (hb2.cell (p := ⟨w.heap.size, 0, none⟩) hszW).trans q0
    have r1 := (hb2.cell (p := ⟨w.heap.size, 1, none⟩) hszW).trans q1
    have r2 := (hb2.cell (p := ⟨w.heap.size, 2, none⟩) hszW).trans q2
    have hs2 := (hs.below hb2).more hb2.size
    have hs2' := (hs'.below hb2).more hb2.size
    have hxs2 := (hxs.below hb2).more hb2.size
    go_wp2_with fail
    clear r0 r1 r2
    refine bodyPost_ret (v := .tuple #[.slice none 0 0, .int .i64 k]) (by simp [results, Tryz.results36, go_sem]) rfl ?_
    exact ⟨_, by rw [hC.out], by rw [hV.out]; exact Ow.nil _ _, hbW.trans (hb2.mono (Nat.le_of_lt hszW))⟩
set_option maxHeartbeats 2000000 in
theorem impl_Ort_any (w : World) (A : Option Addr) (n c : Nat) (os : List Int) (D : Int) (A' : Option Addr) (n' c' : Nat) (vs : List Int) (L : Option Addr) (l lc : Nat) (xs : List Int)
    (h : Sl w w.heap.size A n c os) (h' : Sl w w.heap.size A' n' c' vs) (hx : Sl w w.heap.size L l lc xs) (hn : n ≤ 1048576) (hn' : n' ≤ 1048576) (hl : l ≤ 1048576) :
    Calls Tryz.prog 17 #[.agg #[.slice A n c, .int .i64 D, .slice A' n' c'], .slice L l lc] w (MkC w (ogL os D vs xs) (codeS os D vs xs)) := by
  obtain rfl := h'.len
  obtain rfl := hx.len
  have hcode := fun W A n c A' n' c' LL l lc => subgroupCode_any W A n c os D A' n' c' vs LL l lc xs
  obtain ⟨k, hk⟩ : ∃ k, codeS os D vs xs = k := ⟨_, rfl⟩
  rw [hk] at hcode
  by_cases hk0 : k = 0
  · subst hk0
    obtain ⟨hM, hI, -⟩ := codeS_0 hk
    have hG := hM.ok.g
    have HM := hide hI.mem
    have HMv := hide (show ∀ x ∈ xs, 0 ≤ x ∧ x < (vs.length : Int) by rw [hM.ok.len]; exact hI.mem)
    obtain ⟨b, hb⟩ : ∃ b, ortL os D vs xs vs.length = b := ⟨_, rfl⟩
    have hV := hide (show ogL os D vs xs = b by unfold ogL; rw [hk, if_pos rfl, hb])
    have hC := hide hk
    clear hk
    go_enter Tryz.func17, Tryz.ntmps17
    go_wp2_with fail
    obtain ⟨W, hW⟩ : ∃ W, w.alloc (.cells #[.slice A n c, .int .i64 D, .slice A' vs.length c'] 26) = W := ⟨_, rfl⟩
    have hbW : Below w.heap.size w W := by rw [← hW]; exact (by repeat (first | assumption | exact Below.refl _ _ | apply below_drewN | apply Below.drew | apply Below.alloc | apply Below.setCell | omega | (focus (simp; done)) | (focus (simp; omega))))
    have hszW : w.heap.size < W.heap.size := by rw [← hW]; simp
    have hsW := hide (show W.heap.size = w.heap.size + 1 by rw [← hW]; simp)
    have bM : Blk W w.heap.size 26 #[.slice A n c, .int .i64 D, .slice A' vs.length c'] := by rw [← hW]; exact Blk.new _ _ _
    have q0 : W.cell? ⟨w.heap.size, 0, none⟩ = some (.slice A n c) := by rw [← hW]; exact (Blk.new _ _ _).cell 0
    have q1 : W.cell? ⟨w.heap.size, 1, none⟩ = some (.int .i64 D) := by rw [← hW]; exact (Blk.new _ _ _).cell 1
    have q2 : W.cell? ⟨w.heap.size, 2, none⟩ = some (.slice A' vs.length c') := by rw [← hW]; exact (Blk.new _ _ _).cell 2
    rw [hW]
    clear hW
    have hs := (h.below hbW).more (Nat.le_of_lt hszW)
    have hs' := (h'.below hbW).more (Nat.le_of_lt hszW)
    have hxs := (hx.below hbW).more (Nat.le_of_lt hszW)
    refine (hcode _ _ _ _ _ _ _ _ _ _ hs hs' hxs hn hn' hl).mono ?_
    rintro e w2 ⟨rfl, hb2⟩
    have r0 := (hb2.cell (p := ⟨w.heap.size, 0, none⟩) hszW).trans q0
    have r1 := (hb2.cell (p := ⟨w.heap.size, 1, none⟩) hszW).trans q1
    have r2 := (hb2.cell (p := ⟨w.heap.size, 2, none⟩) hszW).trans q2
    have hs2 := (hs.below hb2).more hb2.size
    have hs2' := (hs'.below hb2).more hb2.size
    have hxs2 := (hxs.below hb2).more hb2.size
    go_wp2_with fail
    clear r0 r1 r2
    refine (orthogonal_any _ _ _ _ _ _ _ _ _ _ _ _ _ _ hs2 hs2' hxs2 hl hM.ok HM.out).mono ?_
    rw [hb]
    rintro e w3 ⟨v, rfl, hO, hb3⟩
    have k3 := hb2.trans (hb3.mono hb2.size)
    have hz2 := hb2.size
    clear hb
    go_wp2
    refine bodyPost_ret (v := .tuple #[v, .int .i64 0]) (by simp [results, Tryz.results17, go_sem]) rfl ?_
    exact ⟨_, by rw [hC.out], by rw [hV.out]; exact hO.less (by omega), hbW.trans (k3.mono (Nat.le_of_lt hszW))⟩
  · have hV := hide (show ogL os D vs xs = [] by unfold ogL; rw [hk, if_neg hk0])
    have hkb' : (k != 0) = true := by simpa using hk0
    have hC := hide hk
    clear hk
    go_enter Tryz.func17, Tryz.ntmps17
    go_wp2_with fail
    obtain ⟨W, hW⟩ : ∃ W, w.alloc (.cells #[.slice A n c, .int .i64 D, .slice A' vs.length c'] 26) = W := ⟨_, rfl⟩
    have hbW : Below w.heap.size w W := by rw [← hW]; exact (by repeat (first | assumption | exact Below.refl _ _ | apply below_drewN | apply Below.drew | apply Below.alloc | apply Below.setCell | omega | (focus (simp; done)) | (focus (simp; omega))))
    have hszW : w.heap.size < W.heap.size := by rw [← hW]; simp
    have hsW := hide (show W.heap.size = w.heap.size + 1 by rw [← hW]; simp)
    have bM : Blk W w.heap.size 26 #[.slice A n c, .int .i64 D, .slice A' vs.length c'] := by rw [← hW]; exact Blk.new _ _ _
    have q0 : W.cell? ⟨w.heap.size, 0, none⟩ = some (.slice A n c) := by rw [← hW]; exact (Blk.new _ _ _).cell 0
    have q1 : W.cell? ⟨w.heap.size, 1, none⟩ = some (.int .i64 D) := by rw [← hW]; exact (Blk.new _ _ _).cell 1
    have q2 : W.cell? ⟨w.heap.size, 2, none⟩ = some (.slice A' vs.length c') := by rw [← hW]; exact (Blk.new _ _ _).cell 2
    rw [hW]
    clear hW
    have hs := (h.below hbW).more (Nat.le_of_lt hszW)
    have hs' := (h'.below hbW).more (Nat.le_of_lt hszW)
    have hxs := (hx.below hbW).more (Nat.le_of_lt hszW)
    refine (hcode _ _ _ _ _ _ _ _ _ _ hs hs' hxs hn hn' hl).mono ?_
    rintro e w2 ⟨rfl, hb2⟩
    have r0 := (hb2.cell (p := ⟨w.heap.size, 0, none⟩) hszW).trans q0
    have r1 := (hb2.cell (p := ⟨w.heap.size, 1, none⟩) hszW).trans q1
    have r2 := (hb2.cell (p := ⟨w.heap.size, 2, none⟩) hszW).trans q2
    have hs2 := (hs.below hb2).more hb2.size
    have hs2' := (hs'.below hb2).more hb2.size
    have hxs2 := (hxs.below hb2).more hb2.size
    go_wp2_with fail
    clear r0 r1 r2
    refine bodyPost_ret (v := .tuple #[.slice none 0 0, .int .i64 k]) (by simp [results, Tryz.results17, go_sem]) rfl ?_
    exact ⟨_, by rw [hC.out], by rw [hV.out]; exact Ow.nil _ _, hbW.trans (hb2.mono (Nat.le_of_lt hszW))⟩
theorem IsLst.lt {N : Int} {xs : List Int} (h : IsLst N xs) : xs.Pairwise (· < ·) := by
  rw [List.pairwise_iff_getElem]
  intro i j hi hj hij
  have key : ∀ d, i + 1 + d < xs.length → gi xs i < gi xs (i + 1 + d) := by
    intro d
    induction d with
    | zero => intro hl; have := (h (i + 1) hl).2 (by omega); simpa using this
    | succ d ih =>
      intro hl
      have h1 := ih (by omega)
      have h2 := (h (i + 1 + (d + 1)) hl).2 (by omega)
      rw [show i + 1 + (d + 1) - 1 = i + 1 + d by omega] at h2
      omega
  have h1 := key (j - (i + 1)) (by omega)
  rw [show i + 1 + (j - (i + 1)) = j by omega] at h1
  have e : ∀ (k : Nat) (hk : k < xs.length), gi xs k = xs[k] := fun k hk => by unfold gi; rw [List.getD_eq_getElem?_getD, List.getElem?_eq_getElem hk]; rfl
  rw [e i hi, e j hj] at h1
  exact h1
theorem lst_of {N : Int} {xs : List Int} (hp : xs.Pairwise (· < ·)) (hr : ∀ x ∈ xs, 0 ≤ x ∧ x < N) : IsLst N xs := by
  intro j hj
  have e : ∀ (k : Nat) (hk : k < xs.length), gi xs k = xs[k] := fun k hk => by unfold gi; rw [List.getD_eq_getElem?_getD, List.getElem?_eq_getElem hk]; rfl
  refine ⟨inB_t (hr _ (gi_mem hj)).1 (by have := (hr _ (gi_mem hj)).2; omega), fun h0 => ?_⟩
  rw [e _ (show j - 1 < xs.length by omega), e j hj]
  exact List.pairwise_iff_getElem.1 hp _ _ _ _ (by omega)
section
variable {os vs xs : List Int} {D : Int}
theorem codeL_t (hM : IsM os D vs) (h : IsLst (prodL os) xs) : codeL os D vs xs = 0 := by unfold codeL; rw [if_pos (isM_t hM), if_pos (lstB_t h)]
theorem codeS_t (hM : IsM os D vs) (h : IsLst (prodL os) xs) (hc : clB os xs = true) : codeS os D vs xs = 0 := by unfold codeS; rw [if_pos (codeL_t hM h), if_pos hc]
/-- ok is told by the code where the list is one. -/
theorem sg_ok (h : codeL os D vs xs = 0) : sgB os D vs xs = decide (codeS os D vs xs = 0) := by
  unfold sgB codeS
  rw [h, if_pos rfl]
  cases clB os xs <;> simp
theorem sbm_of (h : codeS os D vs xs = 0) : IsM os D vs ∧ IsLst (prodL os) xs ∧ SbM os vs xs := by
  obtain ⟨hM, hI, hc⟩ := codeS_0 h
  exact ⟨hM, hI, clB_iff.1 hc, hI.lt, fun x hx => by have := hI.mem x hx; have := hM.ok.len; omega⟩
theorem ort_lst (hM : IsM os D vs) (hH : SbM os vs xs) : IsLst (prodL os) (ortL os D vs xs vs.length) :=
  lst_of (ort_sb hM hH).lt fun x hx => by have := (ort_sb hM hH).rng x hx; have := hM.ok.len; omega
theorem ort_code (hM : IsM os D vs) (hH : SbM os vs xs) : codeL os D vs (ortL os D vs xs vs.length) = 0 ∧ codeS os D vs (ortL os D vs xs vs.length) = 0 ∧ sgB os D vs (ortL os D vs xs vs.length) = true := by
  have hl := ort_lst hM hH
  have hc : clB os (ortL os D vs xs vs.length) = true := clB_iff.2 (ort_sb hM hH).sb
  refine ⟨codeL_t hM hl, codeS_t hM hl hc, ?_⟩
  rw [sg_ok (codeL_t hM hl), codeS_t hM hl hc]; rfl
/-- What a subgroup makes is this itself. -/
theorem gen_self (hM : IsM os D vs) (hI : IsLst (prodL os) xs) (hH : SbM os vs xs) : sgfL os D vs xs = xs := by
  unfold sgfL
  rw [if_pos (codeL_t hM hI)]
  refine lt_ext (genL_lt _ _ _) hH.lt fun v => ⟨fun h => gen_sub hM.ok.g hM.ok.len hH.sb (fun x hx => hx) v h, fun h => gen_mem hM.ok.g hM.ok.len hH.rng h⟩
/-- The mask of a subgroup is one of all masks. -/
theorem msk_all (hM : IsM os D vs) (hH : SbM os vs xs) : ((msk xs : Nat) : Int) ∈ sgK os vs.length := by
  unfold sgK
  refine List.mem_map.2 ⟨msk xs, mem_allK.2 ⟨msk_lt fun x hx => hH.rng x hx, ?_⟩, rfl⟩
  rw [mems_msk hH.lt hH.rng]
  exact hH.sb
theorem ndgM_iff (hM : IsM os D vs) : ndgM os D vs = true ↔ Ndg os D vs := by
  unfold ndgM
  rw [isM_t hM, Bool.true_and, decide_eq_true_eq]
  exact ndg_iff hM
end
end Go.Proofs.YtbpihnpakolooaaGreatDoor
