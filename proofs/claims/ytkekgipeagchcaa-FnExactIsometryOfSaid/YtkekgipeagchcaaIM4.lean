
/- The walks of l10Isometry and of the closure isIsometry. -/
import Derived.Test.YtkekgipeagchcaaIM3
namespace Go.Proofs.Ytkekgipeagchcaa
open Go Go.RowKit Grp
set_option linter.unusedSimpArgs false
set_option linter.unusedVariables false
set_option maxRecDepth 100000
structure TwoOk (T : Two) : Prop where
  M : IsM T.os T.D T.vs
  N : IsM T.ps T.E T.us
  len : T.vs.length = T.us.length
theorem TwoOk.n16 {T : Two} (h : TwoOk T) : T.us.length ≤ 16 := h.N.ok.lt
theorem TwoOk.nps {T : Two} (h : TwoOk T) : prodL T.ps = T.us.length := h.N.ok.len.symm
theorem TwoOk.nos {T : Two} (h : TwoOk T) : prodL T.os = T.us.length := by rw [← h.len]; exact h.M.ok.len.symm
theorem TwoOk.im_rng {T : Two} (h : TwoOk T) (pre : List Int) (x : Nat) : 0 ≤ T.im pre x ∧ T.im pre x < T.us.length := by
  have := imF_rng (os := T.os) (ps := T.ps) h.N.ok.g pre x
  rw [h.nps] at this; exact this
theorem bool_info : (Try.prog.info? 4).map (fun i => (i.zero, i.size, i.bytes)) = some (some (.bool false), 1, 1) := by kernel_rfl
theorem made_at {v : Value} {N j : Nat} (h : j < N) : (madeCells #[v] N)[j]? = some v := by
  rw [← Array.getElem?_toList, toList_madeCells_one, List.getElem?_replicate, if_pos h]
/-- Which images have been met. -/
def MetB (T : Two) (pre : List Int) (k : Nat) (cs : Array Value) : Prop := cs.size = T.us.length ∧ ∀ j : Nat, j < T.us.length → cs[j]? = some (.bool (hasB (T.ims pre k) j))
theorem MetB.step {T : Two} {pre : List Int} {k y : Nat} {cs : Array Value} (h : MetB T pre k cs) (hy : y < T.us.length) (he : T.im pre k = y) : MetB T pre (k + 1) (cs.setIfInBounds y (.bool true)) := by
  refine ⟨by simp [h.1], fun j hj => ?_⟩
  rw [Array.getElem?_setIfInBounds]
  have e : hasB (T.ims pre (k + 1)) j = (hasB (T.ims pre k) j || ((y : Int) == (j : Int))) := by
    rw [T.ims_succ, he]; simp [hasB]
  by_cases hjy : y = j
  · subst hjy
    rw [if_pos rfl, if_pos (by rw [h.1]; exact hy), e]
    simp
  · rw [if_neg hjy, h.2 j hj, e]
    have : ((y : Int) == (j : Int)) = false := by rw [beq_eq_false_iff_ne]; omega
    rw [this, Bool.or_false]
set_option maxHeartbeats 4000000 in
theorem l10Isometry_any (w : World) (T : Two) (hT : TwoOk T) (A : Option Addr) (n c : Nat) (B : Option Addr) (m k : Nat) (A2 : Option Addr) (n2 c2 : Nat) (B2 : Option Addr) (m2 k2 : Nat) (A3 : Option Addr) (n3 c3 : Nat) (pre : List Int)
    (h : Sl w w.heap.size A n c T.os) (h' : Sl w w.heap.size B m k T.vs) (g : Sl w w.heap.size A2 n2 c2 T.ps) (g' : Sl w w.heap.size B2 m2 k2 T.us) (h3 : Sl w w.heap.size A3 n3 c3 pre) (hl : pre.length = T.os.length) (hi : ∀ y ∈ pre, 0 ≤ y ∧ y < T.us.length) :
    Calls Try.prog 71 #[.agg #[.slice A n c, .int .i64 T.D, .slice B m k], .agg #[.slice A2 n2 c2, .int .i64 T.E, .slice B2 m2 k2], .slice A3 n3 c3] w (Re w (.bool (T.iso pre))) := by
  obtain ⟨i0, hi0, hz0, hz1, hz2⟩ := info_parts bool_info
  have h16 := hT.n16
  have hD1 := hT.M.ok.d1
  have hD2 := hT.M.ok.d2
  have hE1 := hT.N.ok.d1
  have hE2 := hT.N.ok.d2
  have hmk := fun W => run_make (P := Try.prog) (w := W) 88 4 i0 (.bool false) Try.underlying88 hi0 hz0 .i64 .i64 T.us.length T.us.length (by omega) (by omega) (by rw [hz2]; omega) (by omega)
  simp only [hz1, Int.toNat_natCast, Nat.mul_one] at hmk
  have hIso := hide (show T.iso pre = T.goes pre T.us.length from rfl)
  obtain ⟨b, hb⟩ : ∃ b, T.iso pre = b := ⟨_, rfl⟩
  rw [hb] at hIso ⊢
  clear hb
  obtain rfl := g'.len
  obtain rfl : T.us.length = m := by rw [← hT.len]; exact h'.len
  go_enter Try.func71, Try.ntmps71
  go_wp2_with fail
  have bm0 : Blk (((w.alloc (.cells #[.slice A n c, .int .i64 T.D, .slice B T.us.length k] 28)).alloc (.cells #[.slice A2 n2 c2, .int .i64 T.E, .slice B2 T.us.length k2] 28)).alloc (.cells (madeCells #[.bool false] T.us.length) 4)) w.heap.size 28 #[.slice A n c, .int .i64 T.D, .slice B T.us.length k] := ((Blk.new _ _ _).alloc _).alloc _
  have bn0 : Blk (((w.alloc (.cells #[.slice A n c, .int .i64 T.D, .slice B T.us.length k] 28)).alloc (.cells #[.slice A2 n2 c2, .int .i64 T.E, .slice B2 T.us.length k2] 28)).alloc (.cells (madeCells #[.bool false] T.us.length) 4)) (w.heap.size + 1) 28 #[.slice A2 n2 c2, .int .i64 T.E, .slice B2 T.us.length k2] := (Blk.new' _ _ _ _ (by simp)).alloc _
  have bc0 : Blk (((w.alloc (.cells #[.slice A n c, .int .i64 T.D, .slice B T.us.length k] 28)).alloc (.cells #[.slice A2 n2 c2, .int .i64 T.E, .slice B2 T.us.length k2] 28)).alloc (.cells (madeCells #[.bool false] T.us.length) 4)) (w.heap.size + 1 + 1) 4 (madeCells #[.bool false] T.us.length) := Blk.new' _ _ _ _ (by simp)
  have hB0 : Below w.heap.size w (((w.alloc (.cells #[.slice A n c, .int .i64 T.D, .slice B T.us.length k] 28)).alloc (.cells #[.slice A2 n2 c2, .int .i64 T.E, .slice B2 T.us.length k2] 28)).alloc (.cells (madeCells #[.bool false] T.us.length) 4)) := (by repeat (first | assumption | exact Below.refl _ _ | apply below_drewN | apply Below.drew | apply Below.alloc | apply Below.setCell | omega | (focus (simp; done)) | (focus (simp; omega))))
  have hM0 := hide (show MetB T pre 0 (madeCells #[.bool false] T.us.length) from ⟨size_madeCells _ _, fun j hj => by rw [made_at hj]; rfl⟩)
  have hg0 := hide (show T.goes pre 0 = true from rfl)
  obtain ⟨N, hN⟩ : ∃ N, T.us.length = N := ⟨_, rfl⟩
  have HN := hide hN
  obtain ⟨cs0, hcs0⟩ : ∃ cs0, madeCells #[Value.bool false] T.us.length = cs0 := ⟨_, rfl⟩
  obtain ⟨W, hW⟩ : ∃ W, ((w.alloc (.cells #[.slice A n c, .int .i64 T.D, .slice B T.us.length k] 28)).alloc (.cells #[.slice A2 n2 c2, .int .i64 T.E, .slice B2 T.us.length k2] 28)).alloc (.cells (madeCells #[.bool false] T.us.length) 4) = W := ⟨_, rfl⟩
  rw [hW] at bm0 bn0 bc0 hB0 ⊢
  rw [hcs0] at bc0 hM0
  rw [hN] at bm0 bn0 h16 h' g' hi hIso ⊢
  clear hW hmk hcs0 hN
  go_loopw [8] (fun x wr => ∃ (q : Nat) (cs : Array Value), q ≤ N ∧ x = .int .i64 q ∧ Hid (T.goes pre q = true) ∧ Hid (MetB T pre q cs) ∧ Blk wr (w.heap.size + 1 + 1) 4 cs ∧ Blk wr w.heap.size 28 #[.slice A n c, .int .i64 T.D, .slice B N k] ∧ Blk wr (w.heap.size + 1) 28 #[.slice A2 n2 c2, .int .i64 T.E, .slice B2 N k2] ∧ Below w.heap.size w wr) (fun x _ => N - (intOf x).toNat)
  case atStart => exact ⟨0, cs0, by omega, rfl, hg0, hM0, bc0, bm0, bn0, hB0⟩
  case round =>
    clear bm0 bn0 bc0 hB0 hM0 hg0
    obtain ⟨q, cs, hq, rfl, hgo, hMe, bc, bm, bn, hBe⟩ := hrel
    have hsz := hBe.size
    have r0 := bm.cell 0
    have r1 := bm.cell 1
    have r2 := bm.cell 2
    have s0 := bn.cell 0
    have s1 := bn.cell 1
    have s2 := bn.cell 2
    by_cases hlt : q < N
    · have hr := hT.im_rng pre q
      rw [HN.out] at hr
      have hIm := hide (l10Image_any wr w.heap.size A n c T.os A2 n2 c2 T.ps A3 n3 c3 pre q (h.below hBe) (g.below hBe) (h3.below hBe) hsz hT.M.ok.g hT.N.ok.g hl (fun y hy => by have := hi y hy; omega) (by omega))
      have HG := hide (T.goes_succ pre q)
      have hno := hide (fun hh => T.goes_no (pre := pre) (j := q) (k := N) hlt hh)
      obtain ⟨y, hy⟩ : ∃ y : Nat, T.im pre q = y := ⟨(T.im pre q).toNat, by omega⟩
      have HY := hide hy
      have hyN : y < N := by omega
      have hM2 := hMe.out.2 y (by rw [HN.out]; exact hyN)
      rw [← hy] at hM2
      rw [show imF T.os T.ps pre (q : Int) = (y : Int) from hy] at hIm
      rw [hgo.out, Bool.true_and] at HG
      obtain ⟨mt, hmt⟩ : ∃ mt, hasB (T.ims pre q) (T.im pre q) = mt := ⟨_, rfl⟩
      rw [hmt] at HG hno hM2
      have cy := (bc.cell y).trans hM2
      have HM2 := hide hM2
      clear hmt hM2
      cases mt with
      | true =>
        have hF := hide (hno.out (by simp))
        go_wp2_with fail
        clear r0 r1 r2 s0 s1 s2 cy
        refine hIm.out.mono ?_
        rintro e w5 ⟨rfl, hb5⟩
        have cy := (bc.all hb5).cell y
        rw [HM2.out] at cy
        have hB5 := hBe.trans (hb5.mono hsz)
        go_wp2_with fail
        go_ret
        exact ⟨by rw [hIso.out, hF.out]; rfl, hB5⟩
      | false =>
        have hAl := hide (fun (W : World) (hW : Below w.heap.size w W) => l10Alike_any W (.slice A n c) T.D B N k T.vs (.slice A2 n2 c2) T.E B2 N k2 T.us q y ((h'.below hW).more hW.size) ((g'.below hW).more hW.size) ⟨hD1, hD2⟩ ⟨hE1, hE2⟩ (fun v hv => hT.M.ok.rng v hv) (fun v hv => hT.N.ok.rng v hv) (by rw [hT.len, HN.out]; exact hlt) (by rw [HN.out]; exact hyN) A n c rfl A2 n2 c2 rfl)
        obtain ⟨al, hal⟩ : ∃ al, T.al q (T.im pre q) = al := ⟨_, rfl⟩
        have hal2 : alB T.D T.E (gi T.vs q) (gi T.us y) = al := by rw [← hal, hy]; rfl
        rw [hal2] at hAl
        rw [hal] at HG hno
        clear hal hal2
        go_wp2_with fail
        clear r0 r1 r2 s0 s1 s2 cy
        refine hIm.out.mono ?_
        rintro e w5 ⟨rfl, hb5⟩
        have bc5 := bc.all hb5
        have bm5 := bm.all hb5
        have bn5 := bn.all hb5
        have cy := bc5.cell y
        rw [HM2.out] at cy
        have r0 := bm5.cell 0
        have r1 := bm5.cell 1
        have r2 := bm5.cell 2
        have s0 := bn5.cell 0
        have s1 := bn5.cell 1
        have s2 := bn5.cell 2
        have hB5 := hBe.trans (hb5.mono hsz)
        have hyi : (y : Int) < (N : Int) := by omega
        have hy0 : (0 : Int) ≤ (y : Int) := by omega
        clear bc bm bn hBe hsz
        go_wp2_with fail
        clear r0 r1 r2 s0 s1 s2 cy
        refine (hAl.out _ hB5).mono ?_
        rintro e w6 ⟨rfl, hb6⟩
        have hB6 := hB5.trans (hb6.mono hB5.size)
        have bc6 := bc5.all hb6
        have bm6 := bm5.all hb6
        have bn6 := bn5.all hb6
        have cy := bc6.cell y
        rw [HM2.out] at cy
        have fy := bc6.frozen y
        cases al with
        | false =>
          have hF := hide (hno.out (by simp))
          go_wp2_with fail
          go_ret
          exact ⟨by rw [hIso.out, hF.out]; rfl, hB6⟩
        | true =>
          have hG1 := hide (show T.goes pre (q + 1) = true by rw [HG.out]; rfl)
          have hM1 := hide (hMe.out.step (by rw [HN.out]; exact hyN) HY.out)
          clear HG hno
          go_wp2_with fail
          clear cy fy
          have hsz6 := hB6.size
          go_roundw
          case rel => exact ⟨q + 1, _, by omega, by go_num, hG1, hM1, bc6.store y _, bm6.far (by show w.heap.size ≠ w.heap.size + 1 + 1; omega) _, bn6.far (by show w.heap.size + 1 ≠ w.heap.size + 1 + 1; omega) _, hB6.setCell (by show w.heap.size ≤ w.heap.size + 1 + 1; omega) _⟩
          case measure => simp [intOf] <;> omega
    · obtain rfl : q = N := by omega
      have hF := hide (show b = true by rw [hIso.out, hgo.out])
      go_wp2_with fail
      go_ret
      exact ⟨by rw [hF.out]; rfl, hBe⟩
end Go.Proofs.Ytkekgipeagchcaa
