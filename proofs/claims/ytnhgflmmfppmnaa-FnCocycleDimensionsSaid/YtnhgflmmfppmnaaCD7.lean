
/- The walk of the closure of CocycleDimension of the program. -/
import Derived.Test.YtnhgflmmfppmnaaCD5
import Derived.Test.YtnhgflmmfppmnaaIX
namespace Go.Proofs.Ytnhgflmmfppmnaa
open Go Go.RowKit Grp Rk
set_option linter.unusedSimpArgs false
set_option linter.unusedVariables false
set_option maxRecDepth 100000
/-- Row and world behind a count. -/
def Ct (w : World) (g M : Nat) (row : List Int) (e : Ending) (w' : World) : Prop := e = .returned (.tuple #[]) ∧ Ow w' 0 (.slice (some ⟨g, 0, none⟩) M M) row ∧ Wr w w' (fun b => b = g)
set_option maxHeartbeats 4000000 in
theorem count_any (w : World) (a b d n m M g pn pc pr : Nat) (num p : Int) (o1 o2 : Value) (row : List Int) (hp : Pr4 p) (hn : n = m + 1) (hm : m ≤ 5) (hM : m * m * m = M) (ha : a ≤ m) (hb : b ≤ m) (hd : d ≤ m) (hnum : num = 1 ∨ num = -1)
    (bn : Blk w pn 3 #[.int .i64 n]) (bc : Blk w pc 37 #[o1, .int .i64 p, o2]) (br : Blk w pr 24 #[.slice (some ⟨g, 0, none⟩) M M]) (ho : Ow w 0 (.slice (some ⟨g, 0, none⟩) M M) row) (hin : In01 p M row) :
    Calls Try.prog 16 #[.int .i64 a, .int .i64 b, .int .i64 d, .int .i64 num, .pointer (some ⟨pn, 0, none⟩), .pointer (some ⟨pc, 0, none⟩), .pointer (some ⟨pr, 0, none⟩)] w (Ct w g M (bump p m row a b d num)) := by
  have hpr := hp.rng
  by_cases h : 0 < a ∧ 0 < b ∧ 0 < d
  rotate_left
  · rw [bump_no h]
    by_cases h1 : 0 < a
    · by_cases h2 : 0 < b
      · have h3 : ¬ 0 < d := fun h3 => h ⟨h1, h2, h3⟩
        clear h
        go_enter Try.func16, Try.ntmps16
        go_wp2_with fail
        refine bodyPost_ret (v := .tuple #[]) (by simp [results, Try.results16, go_sem]) rfl ?_
        exact ⟨rfl, ho, Wr.refl _ _⟩
      · clear h
        go_enter Try.func16, Try.ntmps16
        go_wp2_with fail
        refine bodyPost_ret (v := .tuple #[]) (by simp [results, Try.results16, go_sem]) rfl ?_
        exact ⟨rfl, ho, Wr.refl _ _⟩
    · clear h
      go_enter Try.func16, Try.ntmps16
      go_wp2_with fail
      refine bodyPost_ret (v := .tuple #[]) (by simp [results, Try.results16, go_sem]) rfl ?_
      exact ⟨rfl, ho, Wr.refl _ _⟩
  rw [bump_yes h]
  obtain ⟨h1, h2, h3⟩ := h
  obtain ⟨B1, B2, B3, B4, B5, B6, q1, q2, q3, q4, q5, q6, q7⟩ := ix_chain hm h1 ha h2 hb h3 hd
  have hix := ix_lt h1 ha h2 hb h3 hd
  rw [hM] at hix
  obtain ⟨I, hI⟩ : ∃ I, ix m a b d = I := ⟨_, rfl⟩
  rw [hI] at q7 hix ⊢
  have hw1 : IntKind.i64.wrap ((n : Int) - 1) = (m : Int) := (wr64 _ ⟨by omega, by omega⟩).trans (by omega)
  have hlen : M = row.length := hin.1.symm
  have c1 := ho.cell hlen hix
  have hv := hin.2 I hix
  have hst := fun x (W : World) (hW : Ow W 0 (.slice (some ⟨g, 0, none⟩) M M) row) => (hW.store hlen I x)
  obtain ⟨v, ev⟩ : ∃ v, gi row I = v := ⟨_, rfl⟩
  rw [ev] at c1 hv ⊢
  have hwn : IntKind.i64.wrap (v + num) = v + num := wr64 _ ⟨by omega, by omega⟩
  have C1 := hide c1
  have N0 := hide (bn.cell 0)
  have N1 := bn.cell 0
  have K0 := hide (bc.cell 0)
  have K1 := hide (bc.cell 1)
  have K2 := hide (bc.cell 2)
  have R0 := hide (br.cell 0)
  have lg : g < w.heap.size := World.block_lt_of_cell? _ _ c1
  have ln := bn.lt
  have lc := bc.lt
  have lr := br.lt
  have HO := hide ho
  have HST := hide hst
  have HLN := hide hlen
  obtain ⟨y, hy⟩ : ∃ y, (v + num) % p = y := ⟨_, rfl⟩
  have HR := hide (fun W => by have h9 := restC_any W o1 o2 p (v + num) (by omega) (by omega); rw [hy] at h9; exact h9)
  rw [hy]
  clear hI ev c1 hy ho hst hlen hM hnum
  go_enter Try.func16, Try.ntmps16
  go_wp2_with fail
  clear N1 q1 q2 q3 q4 q5 q6 q7
  refine wp_region_be [0, 1, 2, 3, 4, 5, 6, 7, 8, 9, 10, 11] 10 w.heap.size w (by kernel_rfl) (by kernel_rfl) (by kernel_rfl) (fun _ _ _ _ _ h => h) (Below.refl _ _) (fun wd hBe => ?_)
  repeat (first | (apply ord_tk rfl (by rfl) (by rfl) (by rfl); (focus (intro wx hSw; have r0 := (hSw.cell (p := ⟨pr, 0, none⟩) lr).trans R0.out; have r1 := (hSw.cell (p := ⟨pc, 0, none⟩) lc).trans K0.out; have r2 := (hSw.cell (p := ⟨pc, 1, none⟩) lc).trans K1.out; have r3 := (hSw.cell (p := ⟨pc, 2, none⟩) lc).trans K2.out; have r4 := (hSw.cell (p := ⟨g, I, none⟩) lg).trans C1.out; go_simp; (try with_reducible rfl))); (try simp only [Act.put, List.setIfInBounds_toArray, List.set_cons_zero, List.set_cons_succ])) | (apply ord_skip rfl (by rfl) (by rfl) (fun _ => hBe); (try simp only [Act.put, List.setIfInBounds_toArray, List.set_cons_zero, List.set_cons_succ])))
  refine ord_do rfl (by rfl) (by rfl) (fun K hK => ?_)
  go_simp
  refine (HR.out _).mono ?_
  rintro e wd' ⟨rfl, hwd⟩
  replace hBe := hBe.trans (hwd.mono hBe.size)
  clear hwd
  refine hK.out _ _ (fun _ => hBe) ?_
  (try simp only [Act.put, List.setIfInBounds_toArray, List.set_cons_zero, List.set_cons_succ])
  clear hK K
  repeat (first | (apply ord_tk rfl (by rfl) (by rfl) (by rfl); (focus (intro wx hSw; have r0 := (hSw.cell (p := ⟨pr, 0, none⟩) lr).trans R0.out; have r1 := (hSw.cell (p := ⟨pc, 0, none⟩) lc).trans K0.out; have r2 := (hSw.cell (p := ⟨pc, 1, none⟩) lc).trans K1.out; have r3 := (hSw.cell (p := ⟨pc, 2, none⟩) lc).trans K2.out; have r4 := (hSw.cell (p := ⟨g, I, none⟩) lg).trans C1.out; go_simp; (try with_reducible rfl))); (try simp only [Act.put, List.setIfInBounds_toArray, List.set_cons_zero, List.set_cons_succ])) | (apply ord_skip rfl (by rfl) (by rfl) (fun _ => hBe); (try simp only [Act.put, List.setIfInBounds_toArray, List.set_cons_zero, List.set_cons_succ])))
  have hOd := HO.out.below hBe
  have s2 := (hBe.cell (p := ⟨g, I, none⟩) lg).trans C1.out
  have s3 := hOd.frozen HLN.out I
  have HF := hide (HST.out y wd' hOd)
  clear hOd
  refine ord_do rfl (by rfl) (by rfl) (fun K hK => ?_)
  go_simp
  refine hK.out _ _ (fun h => absurd h (by omega)) ?_
  (try simp only [Act.put, List.setIfInBounds_toArray, List.set_cons_zero, List.set_cons_succ])
  clear hK K
  refine ord_do rfl (by rfl) (by rfl) (fun K hK => ?_)
  go_simp
  refine hK.out _ _ (fun h => absurd h (by omega)) ?_
  (try simp only [Act.put, List.setIfInBounds_toArray, List.set_cons_zero, List.set_cons_succ])
  clear hK K
  refine ord_nil ?_
  clear s2 s3
  go_wp2_with fail
  refine bodyPost_ret (v := .tuple #[]) (by simp [results, Try.results16, go_sem]) rfl ?_
  exact ⟨rfl, HF.out, (Wr.of_below hBe).trans ⟨rfl, rfl, rfl, by simp [World.setCell], fun b' _ hn => Below.heap_setCell _ ⟨g, I, none⟩ _ b' (fun e => hn e)⟩⟩
end Go.Proofs.Ytnhgflmmfppmnaa
