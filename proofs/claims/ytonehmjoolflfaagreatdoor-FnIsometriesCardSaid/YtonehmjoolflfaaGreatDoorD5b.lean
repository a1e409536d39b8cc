
/- DrawMetricText. The walks of likeInts, likeMetrics5; a slice of bytes that came in. A slice of bytes that came in, opened. -/
import Derived.Test.YtonehmjoolflfaaGreatDoorDva
import Derived.WalkLawsBesides
import Derived.Test.YtonehmjoolflfaaGreatDoorDAa
import Derived.Test.YtonehmjoolflfaaGreatDoorLa
import Derived.Test.YtonehmjoolflfaaGreatDoorOa
namespace Go.Proofs.YtonehmjoolflfaaGreatDoor
open Go Go.RowKit Grp Go.ChangeShapes Go.WideShapes Go.ChangeAt Go.Joins
set_option linter.unusedSimpArgs false
set_option linter.unusedVariables false
/-- It returned a metric that can be read. -/
def DMo (w : World) (e : Ending) (w' : World) : Prop := ∃ A1 c1 A2 c2 os q vs, e = .returned (.agg #[.slice A1 (List.length os) c1, .int .i64 q, .slice A2 (List.length vs) c2]) ∧ GenM os q vs ∧ Sl w' w'.heap.size A1 os.length c1 os ∧ Sl w' w'.heap.size A2 vs.length c2 vs ∧ Below w.heap.size w w'
set_option maxRecDepth 100000 in
set_option maxHeartbeats 4000000 in
theorem drawText_any (w : World) (A : Option Addr) (n c : Nat) (bs : List Int) (hb : SlB w w.heap.size A n c bs) (hn : n ≤ 4096) : Calls Tryz.prog 15 #[.slice A n c] w (DMo w) := by
  go_enter Tryz.func15, Tryz.ntmps15
  obtain ⟨W0, hW0⟩ : ∃ W0, w.alloc (.cells #[.slice none 0 0, .int .i64 0, .slice none 0 0] 26) = W0 := ⟨_, rfl⟩
  have bR : Blk W0 w.heap.size 26 #[.slice none 0 0, .int .i64 0, .slice none 0 0] := by rw [← hW0]; exact Blk.new _ _ _
  have k0 : Below w.heap.size w W0 := by rw [← hW0]; exact (by repeat (first | assumption | exact Below.refl _ _ | apply below_drewN | apply Below.drew | apply Below.alloc | apply Below.setCell | omega | (focus (simp; done)) | (focus (simp; omega))))
  have z0 : w.heap.size < W0.heap.size := by rw [← hW0]; simp
  have hb0 : SlB W0 W0.heap.size A n c bs := ⟨hb.len, hb.cap, hb.rng, fun h => by
    obtain ⟨b, off, e, hlt, hc⟩ := hb.at_ h
    exact ⟨b, off, e, by omega, fun k hk => (k0.cell (p := ⟨b, off + k, none⟩) hlt).trans (hc k hk)⟩⟩
  go_wp2_with fail
  clear hW0
  refine (l01From_any W0 A n c bs hb0 hn).mono ?_
  rintro e w1 ⟨S, rfl, s1⟩
  have bR1 := bR.below s1.below z0
  have z1 := s1.below.size
  have hSz := s1.hS
  go_wp2_with fail
  refine (l10Spoil_any W0 w1 W0.heap.size S A n c 0 bs hb0 (by omega) s1 z1).mono ?_
  rintro e w2 ⟨A1, c1, A2, c2, os, q, vs, rfl, hG, sl1, sl2, ⟨lb1, lb2⟩, s2, g2⟩
  replace bR1 := bR1.grown g2 (by simp; omega)
  have hres := bR1
  have r0 := hres.cell 0
  have r1 := hres.cell 1
  have r2 := hres.cell 2
  have f0 := hres.frozen 0
  have f1 := hres.frozen 1
  have f2 := hres.frozen 2
  go_wp2_with fail
  have hb3 := put3_blk (x := .slice A1 os.length c1) (y := .int .i64 q) (z := .slice A2 vs.length c2) hres
  have q0 := hb3.cell 0
  have q1 := hb3.cell 1
  have q2 := hb3.cell 2
  unfold put3 at q0 q1 q2
  refine bodyPost_ret (v := .agg #[.slice A1 os.length c1, .int .i64 q, .slice A2 vs.length c2]) (by simp [results, Tryz.results15, go_sem, q0, q1, q2]) rfl ?_
  exact ⟨A1, c1, A2, c2, os, q, vs, rfl, hG, slS_out sl1 lb1 (by omega), slS_out sl2 lb2 (by omega), put3_below (k0.trans (s2.below.mono (by omega))) (Nat.le_refl _)⟩

theorem likeInts_any (w : World) (B B' : Nat) (A A' : Option Addr) (n n' c c' : Nat) (xs ys : List Int) (h : Sl w B A n c xs) (h' : Sl w B' A' n' c' ys) (hn : n ≤ 1073741824) :
    Calls Tryz.prog 10 #[.slice A n c, .slice A' n' c'] w (Qt w (.bool (xs == ys))) := by
  by_cases hne : n = n'
  · obtain rfl := hne
    go_enter Tryz.func10, Tryz.ntmps10
    go_wp2
    go_loopw [5] (fun i wr => ∃ k : Nat, k ≤ n ∧ i = .int .i64 k ∧ xs.take k = ys.take k ∧ ∃ m, w.drewN m = wr) (fun i _ => n - (intOf i).toNat)
    case atStart => exact ⟨0, by omega, rfl, rfl, 0, rfl⟩
    case round =>
      obtain ⟨k, hk, rfl, hpre, m, rfl⟩ := hrel
      have hP := hide hpre
      clear hpre
      by_cases hlt : k < n
      · obtain ⟨b, off, rfl, hb, hc⟩ := h.at_ (by omega)
        obtain ⟨b', off', rfl, hb', hc'⟩ := h'.at_ (by omega)
        have c1 := hc k hlt
        have c2 := hc' k hlt
        clear hc hc'
        by_cases hq : gi xs k = gi ys k
        · have hq1 : (gi xs k != gi ys k) = false := by simp [hq]
          have hQ := hide hq
          clear hq
          go_wp2
          go_quiet (fail)
          go_wp2
          go_roundw
          case rel => exact ⟨k + 1, by omega, by go_num, take_step (by rw [h.len]; exact hlt) (by rw [h'.len]; exact hlt) hP.out hQ.out, _, rfl⟩
          case measure => simp [intOf]; omega
        · have hq1 : (gi xs k != gi ys k) = true := by simp [hq]
          go_wp2
          go_quiet (fail)
          go_wp2
          go_ret
          exact Qt.d2 (bool_eq (ne_of_gi hq).symm)
      · go_wp2
        go_ret
        have : xs = ys := by
          have e := hP.out
          rwa [List.take_of_length_le (by rw [h.len]; omega), List.take_of_length_le (by rw [h'.len]; omega)] at e
        exact Qt.d1 (bool_eq (by simp [this]))
  · go_enter Tryz.func10, Tryz.ntmps10
    go_wp2
    go_ret
    exact Qt.mk' 0 rfl (bool_eq (by symm; rw [beq_eq_false_iff_ne]; rintro rfl; exact hne (h.len.symm.trans h'.len)))



theorem likeM_any (w : World) (B : Nat) (A1 A2 A3 A4 : Option Addr) (n1 n2 n3 n4 c1 c2 c3 c4 : Nat) (q q' : Int) (os os' vs vs' : List Int)
    (h1 : Sl w B A1 n1 c1 os) (h2 : Sl w B A2 n2 c2 vs) (h3 : Sl w B A3 n3 c3 os') (h4 : Sl w B A4 n4 c4 vs') (hB : B ≤ w.heap.size) (hn1 : n1 ≤ 1073741824) (hn2 : n2 ≤ 1073741824) :
    Calls Tryz.prog 19 #[.agg #[.slice A1 n1 c1, .int .i64 q, .slice A2 n2 c2], .agg #[.slice A3 n3 c3, .int .i64 q', .slice A4 n4 c4]] w (Re w (.bool (os == os' && (q == q' && vs == vs')))) := by
  obtain ⟨b1, hb1⟩ : ∃ b, (os == os') = b := ⟨_, rfl⟩
  obtain ⟨b2, hq⟩ : ∃ b, (q == q') = b := ⟨_, rfl⟩
  obtain ⟨b3, hb3⟩ : ∃ b, (vs == vs') = b := ⟨_, rfl⟩
  rw [hb1, hq, hb3]
  have H1 := hide hb1
  have H3 := hide hb3
  clear hb1 hb3
  cases b1
  · go_enter Tryz.func19, Tryz.ntmps19
    go_wp2_with fail
    refine (likeInts_any _ B B _ _ _ _ _ _ _ _ (by repeat (first | assumption | apply Sl.drewN | apply Sl.drew | apply Sl.alloc | apply Sl.setCell | omega | (focus (simp; done)) | (focus (simp; omega)))) (by repeat (first | assumption | apply Sl.drewN | apply Sl.drew | apply Sl.alloc | apply Sl.setCell | omega | (focus (simp; done)) | (focus (simp; omega)))) hn1).mono ?_
    rintro e w' ⟨rfl, m, rfl⟩
    rw [H1.out]
    go_wp2
    go_ret
    exact ⟨rfl, (by repeat (first | assumption | exact Below.refl _ _ | apply below_drewN | apply Below.drew | apply Below.alloc | apply Below.setCell | omega | (focus (simp; done)) | (focus (simp; omega))))⟩
  · cases b2
    · go_enter Tryz.func19, Tryz.ntmps19
      go_wp2_with fail
      refine (likeInts_any _ B B _ _ _ _ _ _ _ _ (by repeat (first | assumption | apply Sl.drewN | apply Sl.drew | apply Sl.alloc | apply Sl.setCell | omega | (focus (simp; done)) | (focus (simp; omega)))) (by repeat (first | assumption | apply Sl.drewN | apply Sl.drew | apply Sl.alloc | apply Sl.setCell | omega | (focus (simp; done)) | (focus (simp; omega)))) hn1).mono ?_
      rintro e w' ⟨rfl, m, rfl⟩
      rw [H1.out]
      go_wp2
      go_ret
      exact ⟨rfl, (by repeat (first | assumption | exact Below.refl _ _ | apply below_drewN | apply Below.drew | apply Below.alloc | apply Below.setCell | omega | (focus (simp; done)) | (focus (simp; omega))))⟩
    · cases b3
      all_goals
        go_enter Tryz.func19, Tryz.ntmps19
        go_wp2_with fail
        refine (likeInts_any _ B B _ _ _ _ _ _ _ _ (by repeat (first | assumption | apply Sl.drewN | apply Sl.drew | apply Sl.alloc | apply Sl.setCell | omega | (focus (simp; done)) | (focus (simp; omega)))) (by repeat (first | assumption | apply Sl.drewN | apply Sl.drew | apply Sl.alloc | apply Sl.setCell | omega | (focus (simp; done)) | (focus (simp; omega)))) hn1).mono ?_
        rintro e w' ⟨rfl, m, rfl⟩
        rw [H1.out]
        go_wp2_with fail
        refine (likeInts_any _ B B _ _ _ _ _ _ _ _ (by repeat (first | assumption | apply Sl.drewN | apply Sl.drew | apply Sl.alloc | apply Sl.setCell | omega | (focus (simp; done)) | (focus (simp; omega)))) (by repeat (first | assumption | apply Sl.drewN | apply Sl.drew | apply Sl.alloc | apply Sl.setCell | omega | (focus (simp; done)) | (focus (simp; omega)))) hn2).mono ?_
        rintro e w' ⟨rfl, m, rfl⟩
        rw [H3.out]
        go_wp2
        go_ret
        exact ⟨rfl, (by repeat (first | assumption | exact Below.refl _ _ | apply below_drewN | apply Below.drew | apply Below.alloc | apply Below.setCell | omega | (focus (simp; done)) | (focus (simp; omega))))⟩

/-- A slice of bytes that came in. -/
structure BlIn (w : World) (A : Option Addr) (n c : Nat) (xs : List Int) : Prop where
  sl : SlB w w.heap.size A n c xs
  big : n ≤ 9223372036854775807

section
variable {H : Type} {enc : TypeId × Value → H} {W : World} {base : Nat} {spare : Nat → Bool} {held : Bool}
theorem bl_of_trod {fuel : Nat} {v : Value} {y : DataW H × List MemPlace} (h : DataW.trod enc Tryz.prog W base spare held fuel 22 [v] = some y) : ∃ A n c xs, v = .slice A n c ∧ BlIn W A n c xs := by
  rcases open_ints Tryz.underlying22 Tryz.underlying5 (by kernel_rfl) h with ⟨hcs, _⟩ | ⟨x, l, c, zs, hcs, _, hl, hm, hz, _, hcell, hwz⟩
  · simp at hcs
    exact ⟨none, 0, 0, [], hcs, ⟨rfl, by omega, by simp, fun h => absurd h (by omega)⟩, by omega⟩
  · simp at hcs
    have hlz : l ≤ zs.length := by rw [hz]; split <;> omega
    have hmax : maxLen = 9223372036854775807 := rfl
    refine ⟨some x, l, c, zs.take l, hcs, ⟨by simp; omega, hl, ?_, ?_⟩, by omega⟩
    · intro q hq
      have := hwz q (List.mem_of_mem_take hq)
      simp [Lit.wf, IntKind.min, IntKind.max, IntKind.signed, IntKind.bits] at this
      omega
    · intro hpos
      obtain ⟨b, off, spot⟩ := x
      have h0 := hcell 0 (by omega)
      have hs : spot = none := by simpa [Addr.add] using World.cell?_spot h0
      subst hs
      have hb := World.block_lt_of_cell? _ _ h0
      have ha : ∀ k, (⟨b, off, none⟩ : Addr).add k = ⟨b, off + k, none⟩ := by intro k; unfold Addr.add; split <;> simp_all
      rw [ha] at hb
      refine ⟨b, off, rfl, hb, fun k hk => ?_⟩
      have h1 := hcell k (by omega)
      rw [ha] at h1
      rw [h1]
      congr 2
      unfold gi
      simp [List.getD, List.getElem?_take, hk]
set_option maxRecDepth 100000 in
theorem open_bytes {r : Reach} {b0 : Nat} {v : Value} {d : DataW H} {p : List MemPlace} (hv : Value.okWide Tryz.prog W r b0 22 v) (h : DataW.Trod enc Tryz.prog W base spare held 22 v d p) :
    ∃ A n c xs, v = .slice A n c ∧ BlIn W A n c xs := by
  obtain ⟨a0, len0, cap0, rfl⟩ := okWide_slice Tryz.underlying22 hv
  obtain ⟨fuel, hf⟩ := h
  exact bl_of_trod (by simpa [Value.cells] using hf)
end
end Go.Proofs.YtonehmjoolflfaaGreatDoor
