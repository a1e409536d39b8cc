
/- Draws: DrawCyclicMetric, DrawHyperbolicMetric, l09Orders2. -/
import Derived.Test.YtneflhachjlmkaaD1
import Derived.Test.YtneflhachjlmkaaGa
import Derived.Test.YtneflhachjlmkaaSa
import Derived.WalkLawsBesides
namespace Go.Proofs.Ytneflhachjlmkaa
open Go Go.RowKit Grp
set_option linter.unusedSimpArgs false
set_option linter.unusedVariables false

theorem grown_below {w w1 w2 : World} {row : Option Nat} (h : w.grownBy w1 row) (k : Below w.heap.size w1 w2) : w.grownBy w2 row :=
  ⟨k.os.trans h.os, k.tape.trans h.tape, k.output.trans h.output, Nat.le_trans h.size k.size, fun b hb hne => (k.block b hb).trans (h.block b hb hne)⟩
theorem pick_mem {ys : List Int} {x lo hi : Int} (hx : x ∈ ys) (h : (ys.all fun y => decide (lo ≤ y) && decide (y ≤ hi)) = true) : lo ≤ x ∧ x ≤ hi := by
  have := List.all_eq_true.1 h x hx
  simpa using this

def Pr2 (w : World) (e : Ending) (w' : World) : Prop := ∃ n a, e = .returned (.tuple #[.int .i64 n, .int .i64 a]) ∧ i64ok n ∧ i64ok a ∧ Below w.heap.size w w'
set_option maxRecDepth 100000 in
set_option maxHeartbeats 2000000 in
theorem drawCyclic_any (w : World) (A : Option Addr) (n c : Nat) (bs : List Int) (hb : SlB w w.heap.size A n c bs) (hn : n ≤ 4096) : Calls Try.prog 72 #[.slice A n c] w (Pr2 w) := by
  go_enter Try.func72, Try.ntmps72
  go_wp2_with fail
  refine (l01From_any w A n c bs hb hn).mono ?_
  rintro e w1 ⟨S, rfl, hs1⟩
  go_wp2_with fail
  refine (l01Next_any w _ _ S A n c bs hb (by omega) hs1 15 ⟨by omega, by omega⟩).mono ?_
  rintro e w2 ⟨x, rfl, ⟨x0, x1, -⟩, hs2, -⟩
  have x1 := x1 (by omega)
  have v1 : IntKind.i64.wrap (2 + x) = 2 + x := wr64 _ ⟨by omega, by omega⟩
  go_wp2_with fail
  refine (l01Next_any w _ _ S A n c bs hb (by omega) hs2 8 ⟨by omega, by omega⟩).mono ?_
  rintro e w3 ⟨y, rfl, ⟨y0, y1, -⟩, hs3, -⟩
  have y1 := y1 (by omega)
  have v2 : IntKind.i64.wrap (2 + y) = 2 + y := wr64 _ ⟨by omega, by omega⟩
  go_wp2_with fail
  refine (l01Pick_any w _ _ S A n c bs hb (by omega) (hs3.alloc _) w3.heap.size 2 5 [2 + x, 2 + y, 1, 17, 13] (Blk.new _ _ _) (by have := hs3.lt; omega) rfl (by omega) (by omega)).mono ?_
  rintro e w4 ⟨m, rfl, hm, hs4, -⟩
  have hm2 : 1 ≤ m ∧ m ≤ 17 := by simp at hm; omega
  clear hm
  have v3 : IntKind.i64.wrap (2 * m) = 2 * m := wr64 _ ⟨by omega, by omega⟩
  have v4 : IntKind.i64.wrap (2 * m - 1) = 2 * m - 1 := wr64 _ ⟨by omega, by omega⟩
  go_wp2_with fail
  refine (l01Count_any w _ _ S A n c bs hb (by omega) hs4 (2 * m - 1) (by omega) (by omega)).mono ?_
  rintro e w5 ⟨a, rfl, ha, hs5, -⟩
  go_wp2_with fail
  refine bodyPost_ret (v := .tuple #[.int .i64 m, .int .i64 a]) (by simp [results, Try.results72, go_sem]) rfl ?_
  exact ⟨m, a, rfl, ⟨by omega, by omega⟩, ha, hs5.below⟩
set_option maxRecDepth 100000 in
set_option maxHeartbeats 2000000 in
theorem drawHyper_any (w : World) (A : Option Addr) (n c : Nat) (bs : List Int) (hb : SlB w w.heap.size A n c bs) (hn : n ≤ 4096) : Calls Try.prog 75 #[.slice A n c] w (fun e w' => ∃ m, e = .returned (.int .i64 m) ∧ i64ok m ∧ Below w.heap.size w w') := by
  go_enter Try.func75, Try.ntmps75
  go_wp2_with fail
  refine (l01From_any w A n c bs hb hn).mono ?_
  rintro e w1 ⟨S, rfl, hs1⟩
  go_wp2_with fail
  refine (l01Pick_any w _ _ S A n c bs hb (by omega) (hs1.alloc _) w1.heap.size 2 6 [2, 3, 4, 1, 5, -1] (Blk.new _ _ _) (by have := hs1.lt; omega) rfl (by omega) (by omega)).mono ?_
  rintro e w4 ⟨m, rfl, hm, hs4, -⟩
  have hm2 : -1 ≤ m ∧ m ≤ 5 := pick_mem hm (by decide)
  clear hm
  go_wp2_with fail
  go_ret
  exact ⟨m, rfl, ⟨by omega, by omega⟩, hs4.below⟩
end Go.Proofs.Ytneflhachjlmkaa
