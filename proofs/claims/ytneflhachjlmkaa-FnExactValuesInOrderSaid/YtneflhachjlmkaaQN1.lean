
/- The walks of l11Leader, l11Isotropy. -/
import Derived.Test.YtneflhachjlmkaaCN
import Derived.WalkLawsBesides
namespace Go.Proofs.Ytneflhachjlmkaa
open Go Go.RowKit Grp
set_option linter.unusedSimpArgs false
set_option linter.unusedVariables false
set_option maxRecDepth 100000
theorem ldr_take {os xs : List Int} {x : Int} {k : Nat} (hk : k < xs.length) : ldr os (xs.take (k + 1)) x = min (ldr os (xs.take k) x) (Ar os x (gi xs k)) := by rw [take_gi hk, ldr_snoc]
theorem ldr_bd {os : List Int} (hG : OkG os) (xs : List Int) {x : Int} (h0 : 0 ≤ x) : 0 ≤ ldr os xs x ∧ ldr os xs x ≤ x := by
  refine ⟨?_, ldr_le os xs x⟩
  rcases (foldMin (fun h => Ar os x h) xs x).2.2 with h | ⟨h, _, h⟩
  · unfold ldr; omega
  · unfold ldr; rw [h]; exact (Ar_rng hG x _).1
set_option maxHeartbeats 2000000 in
theorem l11Leader_any (w : World) (A : Option Addr) (n c : Nat) (os : List Int) (D : Int) (A' : Option Addr) (n' c' : Nat) (L : Option Addr) (l lc : Nat) (xs : List Int) (x : Int)
    (h : Sl w w.heap.size A n c os) (hx : Sl w w.heap.size L l lc xs) (hl : l ≤ 1048576) (hG : OkG os) (x0 : 0 ≤ x) (x1 : x ≤ 1000000) (hI : ∀ y ∈ xs, 0 ≤ y ∧ y ≤ 1000000) :
    Calls Try.prog 154 #[.agg #[.slice A n c, .int .i64 D, .slice A' n' c'], .slice L l lc, .int .i64 x] w (Re w (.int .i64 (ldr os xs x))) := by
  obtain rfl := hx.len
  have HI := hide hI
  clear hI
  go_enter Try.func154, Try.ntmps154
  go_wp2_with fail
  obtain ⟨W, hW⟩ : ∃ W, w.alloc (.cells #[.slice A n c, .int .i64 D, .slice A' n' c'] 28) = W := ⟨_, rfl⟩
  have hbW : Below w.heap.size w W := by rw [← hW]; exact (by repeat (first | assumption | exact Below.refl _ _ | apply below_drewN | apply Below.drew | apply Below.alloc | apply Below.setCell | omega | (focus (simp; done)) | (focus (simp; omega))))
  have hszW : w.heap.size < W.heap.size := by rw [← hW]; simp
  have hsW := hide (show W.heap.size = w.heap.size + 1 by rw [← hW]; simp)
  have bM : Blk W w.heap.size 28 #[.slice A n c, .int .i64 D, .slice A' n' c'] := by rw [← hW]; exact Blk.new _ _ _
  have q0 : W.cell? ⟨w.heap.size, 0, none⟩ = some (.slice A n c) := by rw [← hW]; exact (Blk.new _ _ _).cell 0
  have q1 : W.cell? ⟨w.heap.size, 1, none⟩ = some (.int .i64 D) := by rw [← hW]; exact (Blk.new _ _ _).cell 1
  have q2 : W.cell? ⟨w.heap.size, 2, none⟩ = some (.slice A' n' c') := by rw [← hW]; exact (Blk.new _ _ _).cell 2
  rw [hW]
  clear hW
  have hs := (h.below hbW).more (Nat.le_of_lt hszW)
  have hxs := (hx.below hbW).more (Nat.le_of_lt hszW)
  have hB0 := Below.refl W.heap.size W
  go_wp2_with fail
  have H0 := hide (show ldr os (xs.take 0) x = x from rfl)
  go_loopw [7, 8] (fun o i wr => ∃ (k : Nat) (a : Int), k ≤ xs.length ∧ o = .int .i64 a ∧ i = .int .i64 k ∧ Hid (a = ldr os (xs.take k) x) ∧ Below W.heap.size W wr) (fun _ i _ => xs.length - (intOf i).toNat)
  case atStart => exact ⟨0, x, by omega, rfl, rfl, hide H0.out.symm, hB0⟩
  case round =>
    clear hB0
    obtain ⟨k, a, hk, rfl, rfl, hA, hBe⟩ := hrel
    by_cases hlt : k < xs.length
    · obtain ⟨b, off, rfl, hb, hc⟩ := hxs.at_ (by omega)
      have c1 := hc k hlt
      clear hc
      obtain ⟨y0, y1⟩ := HI.out _ (gi_mem hlt)
      have hT := hide (show (if Ar os x (gi xs k) < a then Ar os x (gi xs k) else a) = ldr os (xs.take (k + 1)) x by rw [ldr_take hlt, ← hA.out]; split <;> omega)
      obtain ⟨y, ey⟩ : ∃ y, gi xs k = y := ⟨_, rfl⟩
      rw [ey] at c1 y0 y1 hT
      clear ey
      have hadd := fun W' h' => l10Add_any W' W.heap.size A n c os x y h' hG x0 x1 y0 y1
      obtain ⟨s, es⟩ : ∃ s, Ar os x y = s := ⟨_, rfl⟩
      rw [es] at hadd hT
      clear es
      have hsl := fun W' (h' : Below W.heap.size W W') => hs.below h'
      have hz0 : w.heap.size < wr.heap.size := Nat.lt_of_lt_of_le hszW hBe.size
      have hbR : b < wr.heap.size := Nat.lt_of_lt_of_le hb hBe.size
      have y0' := (hBe.cell (p := ⟨w.heap.size, 0, none⟩) hszW).trans q0
      have c2 := (hBe.cell (p := ⟨b, off + k, none⟩) hb).trans c1
      have hB1 := hBe
      clear c1
      go_wp2_with fail
      refine wp_region_be [0, 1, 2, 3, 4, 5, 6, 7, 8, 9, 10] 10 wr.heap.size wr (by kernel_rfl) (by kernel_rfl) (by kernel_rfl) (fun _ _ _ _ _ h => h) (Below.refl _ _) (fun wd hBe => ?_)
      repeat (first | (apply ord_tk rfl (by rfl) (by rfl) (by rfl); (focus (intro wx hSw; have r0 := (hSw.cell (p := ⟨w.heap.size, 0, none⟩) hz0).trans y0'; have r2 := (hSw.cell (p := ⟨b, off + k, none⟩) hbR).trans c2; go_simp; (try with_reducible rfl))); (try simp only [Act.put, List.setIfInBounds_toArray, List.set_cons_zero, List.set_cons_succ])) | (apply ord_skip rfl (by rfl) (by rfl) (fun _ => hBe); (try simp only [Act.put, List.setIfInBounds_toArray, List.set_cons_zero, List.set_cons_succ])))
      refine ord_do rfl (by rfl) (by rfl) (fun K hK => ?_)
      go_simp
      refine ((hadd _ (hsl _ (hB1.trans (hBe.mono hB1.size)))).mono fun _ _ h => Qt.re h).mono ?_
      rintro e wd' ⟨rfl, hwd⟩
      replace hBe := hBe.trans (hwd.mono hBe.size)
      clear hwd
      refine hK.out _ _ (fun _ => hBe) ?_
      (try simp only [Act.put, List.setIfInBounds_toArray, List.set_cons_zero, List.set_cons_succ])
      clear hK K
      repeat (first | (apply ord_tk rfl (by rfl) (by rfl) (by rfl); (focus (intro wx hSw; have r0 := hz0; go_simp; (try with_reducible rfl))); (try simp only [Act.put, List.setIfInBounds_toArray, List.set_cons_zero, List.set_cons_succ])) | (apply ord_skip rfl (by rfl) (by rfl) (fun _ => hBe); (try simp only [Act.put, List.setIfInBounds_toArray, List.set_cons_zero, List.set_cons_succ])))
      refine ord_do rfl (by rfl) (by rfl) (fun K hK => ?_)
      go_simp
      refine hK.out _ _ (fun _ => hBe) ?_
      (try simp only [Act.put, List.setIfInBounds_toArray, List.set_cons_zero, List.set_cons_succ])
      clear hK K
      refine ord_do rfl (by rfl) (by rfl) (fun K hK => ?_)
      go_simp
      refine hK.out _ _ (fun h => absurd h (by omega)) ?_
      (try simp only [Act.put, List.setIfInBounds_toArray, List.set_cons_zero, List.set_cons_succ])
      clear hK K
      refine ord_nil ?_
      replace hBe := hB1.trans (hBe.mono hB1.size)
      clear hB1 y0' c2 hz0 hbR
      go_wp2_with fail
      go_roundw
      case rel => exact ⟨k + 1, _, by omega, rfl, by go_num, hT, hBe⟩
      case measure => simp [intOf] <;> omega
    · obtain rfl : k = xs.length := by omega
      have hE := hide (show a = ldr os xs x by rw [hA.out, List.take_length])
      go_wp2_with fail
      go_ret
      exact ⟨by rw [hE.out]; rfl, hbW.trans (hBe.mono (Nat.le_of_lt hszW))⟩
/-- The code of a metric and an isotropic subgroup. -/
noncomputable def codeI (os : List Int) (D : Int) (vs xs : List Int) : Int := if codeS os D vs xs = 0 then if isoB vs xs = true then 0 else 5 else codeS os D vs xs
theorem codeI_0 {os vs xs : List Int} {D : Int} (h : codeI os D vs xs = 0) : Cs os D vs xs ∧ IsLst (prodL os) xs := by
  unfold codeI at h
  by_cases h1 : codeS os D vs xs = 0
  · rw [if_pos h1] at h
    by_cases h2 : isoB vs xs = true
    · exact ⟨Cs.of h1 h2, (codeS_0 h1).2.1⟩
    · rw [if_neg h2] at h; omega
  · rw [if_neg h1] at h; exact absurd h h1
end Go.Proofs.Ytneflhachjlmkaa
