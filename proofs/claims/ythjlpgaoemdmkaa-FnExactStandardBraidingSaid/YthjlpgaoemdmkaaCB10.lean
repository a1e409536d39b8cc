
/- The walk of StandardBraiding of the reference. -/
import Derived.Test.YthjlpgaoemdmkaaCB9
namespace Go.Proofs.Ythjlpgaoemdmkaa
open Go Go.RowKit Grp
set_option linter.unusedSimpArgs false
set_option linter.unusedVariables false
set_option maxRecDepth 100000
theorem braiding_zero (w : World) (fp : Nat → Prop) (hb : ∀ b, fp b → b < w.heap.size) : braiding_E w (.agg #[.slice none 0 0, .int .i64 0, .slice none 0 0, .slice none 0 0]) (([], 0, []), []) fp :=
  ⟨_, _, _, _, fun _ => False, fun _ => False, rfl, cocycle_zero _ _ (fun _ h => h.elim), ⟨⟨[], fun _ _ => False, World.ownsRow_nil _ _ _ _, rfl, fun k u x h => by simp at h, fun _ _ _ h => h.elim, fun _ _ h => h.elim⟩, fun b hb => by simp [Value.ownBlock] at hb, fun _ h => h.elim⟩, fun _ h => h.elim, fun _ h => h.elim, fun _ h => h.elim, hb⟩
theorem braiding_put {w W w1 : World} {v : Value} {x : braiding_T} {r : Nat} {a b' c d : Value} (he : braiding_E w1 v x (fun b => W.heap.size ≤ b ∧ b < w1.heap.size)) (hb : Below w.heap.size w w1) (hr : r < W.heap.size) (hw : w.heap.size ≤ r) :
    braiding_E (put4 w1 r a b' c d) v x (fun b => w.heap.size ≤ b ∧ b < (put4 w1 r a b' c d).heap.size) :=
  braiding_mono (braiding_wr he put4_wr fun b h1 h2 => by have := h1.1; omega) (fun b hb => ⟨by have := hb.1; omega, by rw [put4_size]; exact hb.2⟩) (fun b hb => hb.2)
/-- What StandardBraiding returns. -/
def sbB (n a : Int) : Bool := inB n 1 8 && inB a 0 (2 * n - 1)
def sbR (n a : Int) : braiding_T := if sbB n a = true then if a * n % 2 = 1 then (([], 0, []), []) else (([n], 2 * n, cub n.toNat (sbC n.toNat a)), mat n.toNat (sbT n.toNat a)) else (([], 0, []), [])
def sbK (n a : Int) : Int := if sbB n a = true then if a * n % 2 = 1 then 5 else 0 else 2
theorem sb_1 {n a : Int} (h : sbB n a = false) : sbR n a = (([], 0, []), []) ∧ sbK n a = 2 := by unfold sbR sbK; rw [h]; exact ⟨rfl, rfl⟩
theorem sb_2 {n a : Int} (h : sbB n a = true) (h8 : a * n % 2 = 1) : sbR n a = (([], 0, []), []) ∧ sbK n a = 5 := by unfold sbR sbK; rw [if_pos h, if_pos h, if_pos h8, if_pos h8]; exact ⟨rfl, rfl⟩
theorem sb_3 {n : Nat} {a : Int} (h : sbB n a = true) (h8 : ¬ a * (n : Int) % 2 = 1) : sbR n a = ((([(n : Int)], 2 * (n : Int), cub n (sbC n a)), mat n (sbT n a)) : braiding_T) ∧ sbK n a = 0 := by unfold sbR sbK; rw [if_pos h, if_pos h, if_neg h8, if_neg h8]; exact ⟨rfl, rfl⟩
theorem tot2_mat (n : Nat) (h : n ≤ 8) (g : Nat → Nat → Int) : tot2 (mat n g) ≤ 72 := by
  have h1 : tot2 (mat n g) = n + n * n := by
    unfold tot2 totL mat
    simp only [List.length_map, List.length_range, List.map_map]
    congr 1
    have : ∀ k, ((List.range k).map (List.length ∘ fun y => (List.range n).map fun z => g y z)).sum = k * n := by
      intro k
      induction k with
      | zero => simp
      | succ k ih => rw [List.range_succ, List.map_append, List.sum_append, ih]; simp [Nat.succ_mul]
    exact this n
  have a : n * n ≤ 8 * 8 := Nat.mul_le_mul h h
  omega
theorem sbR_tot (n a : Int) : braiding_tot (sbR n a) ≤ 1048576 := by
  unfold sbR
  split
  · rename_i h
    split
    · decide
    · have h8 : n.toNat ≤ 8 := by
        unfold sbB at h
        rw [Bool.and_eq_true] at h
        have := h.1
        simp only [inB, decide_eq_true_eq] at this
        omega
      have h3 := tot3_cub n.toNat h8 (sbC n.toNat a)
      have h2 := tot2_mat n.toNat h8 (sbT n.toNat a)
      unfold braiding_tot cocycle_tot
      simp only [List.length_cons, List.length_nil]
      omega
  · decide
set_option maxHeartbeats 4000000 in
theorem specSB_c (w : World) (n : Int) (wn : i64ok n) (a : Int) (wa : i64ok a) : Calls Try.prog 22 #[.int .i64 n, .int .i64 a] w (MkEC braiding_E w (sbR n a) (sbK n a)) := by
  have hb0 : Below w.heap.size w (w.alloc (.cells #[.slice none 0 0, .int .i64 0, .slice none 0 0, .slice none 0 0] 37)) := (Below.refl _ _).alloc (Nat.le_refl _) _
  have br0 : Blk (w.alloc (.cells #[.slice none 0 0, .int .i64 0, .slice none 0 0, .slice none 0 0] 37)) w.heap.size 37 #[.slice none 0 0, .int .i64 0, .slice none 0 0, .slice none 0 0] := Blk.new _ _ _
  by_cases h1 : 1 ≤ n ∧ n ≤ 8
  rotate_left
  · have hE := hide (sb_1 (n := n) (a := a) (by unfold sbB; rw [inB_f h1]; rfl))
    have hi := inB_f h1
    clear h1
    go_enter Try.func22, Try.ntmps22
    go_wp2_with fail
    refine (l01In_v false n 1 8 _ hi).mono ?_
    rintro e w1 ⟨rfl, d, rfl⟩
    have br := br0.drewN d
    have hbw := below_drewN hb0 d
    obtain ⟨w1, hw1⟩ : ∃ w1, (w.alloc (.cells #[.slice none 0 0, .int .i64 0, .slice none 0 0, .slice none 0 0] 37)).drewN d = w1 := ⟨_, rfl⟩
    rw [hw1] at br hbw ⊢
    clear hw1 br0 hb0
    have gg0 := br.frozen 0
    have gg1 := br.frozen 1
    have gg2 := br.frozen 2
    have gg3 := br.frozen 3
    have y0 := br.cell 0
    have y1 := br.cell 1
    have y2 := br.cell 2
    have y3 := br.cell 3
    have hb4 := put4_blk (x := .slice none 0 0) (y := .int .i64 0) (z := .slice none 0 0) (u := .slice none 0 0) br
    have q0 := hb4.cell 0
    have q1 := hb4.cell 1
    have q2 := hb4.cell 2
    have q3 := hb4.cell 3
    unfold put4 put3 at q0 q1 q2 q3
    go_wp2_with fail
    refine bodyPost_ret (v := .tuple #[.agg #[.slice none 0 0, .int .i64 0, .slice none 0 0, .slice none 0 0], .int .i64 2]) (by simp [results, Try.results22, go_sem, q0, q1, q2, q3]) rfl ?_
    rw [hE.out.1, hE.out.2]
    exact ⟨_, rfl, braiding_zero _ _ (fun b hb => hb.2), put4_below hbw (Nat.le_refl _)⟩
  obtain ⟨hn1, hn8⟩ := h1
  obtain ⟨n, rfl⟩ : ∃ m : Nat, n = (m : Int) := ⟨n.toNat, by omega⟩
  have hi := inB_t hn1 hn8
  have hw0 : IntKind.i64.wrap (2 * (n : Int)) = 2 * (n : Int) := wr64 _ ⟨by omega, by omega⟩
  have hw1 : IntKind.i64.wrap (2 * (n : Int) - 1) = 2 * (n : Int) - 1 := wr64 _ ⟨by omega, by omega⟩
  by_cases h2 : 0 ≤ a ∧ a ≤ 2 * (n : Int) - 1
  rotate_left
  · have hi2 := inB_f h2
    have hE := hide (sb_1 (n := n) (a := a) (by unfold sbB; rw [hi2, Bool.and_false]))
    clear h2
    go_enter Try.func22, Try.ntmps22
    go_wp2_with fail
    refine (l01In_v true n 1 8 _ hi).mono ?_
    rintro e w1 ⟨rfl, d, rfl⟩
    go_wp2_with fail
    refine (l01In_v false a 0 (2 * n - 1) _ hi2).mono ?_
    rintro e w1 ⟨rfl, d2, rfl⟩
    have br := (br0.drewN d).drewN d2
    have hbw := below_drewN (below_drewN hb0 d) d2
    obtain ⟨w1, hw1⟩ : ∃ w1, ((w.alloc (.cells #[.slice none 0 0, .int .i64 0, .slice none 0 0, .slice none 0 0] 37)).drewN d).drewN d2 = w1 := ⟨_, rfl⟩
    rw [hw1] at br hbw ⊢
    clear hw1 br0 hb0
    have gg0 := br.frozen 0
    have gg1 := br.frozen 1
    have gg2 := br.frozen 2
    have gg3 := br.frozen 3
    have y0 := br.cell 0
    have y1 := br.cell 1
    have y2 := br.cell 2
    have y3 := br.cell 3
    have hb4 := put4_blk (x := .slice none 0 0) (y := .int .i64 0) (z := .slice none 0 0) (u := .slice none 0 0) br
    have q0 := hb4.cell 0
    have q1 := hb4.cell 1
    have q2 := hb4.cell 2
    have q3 := hb4.cell 3
    unfold put4 put3 at q0 q1 q2 q3
    go_wp2_with fail
    refine bodyPost_ret (v := .tuple #[.agg #[.slice none 0 0, .int .i64 0, .slice none 0 0, .slice none 0 0], .int .i64 2]) (by simp [results, Try.results22, go_sem, q0, q1, q2, q3]) rfl ?_
    rw [hE.out.1, hE.out.2]
    exact ⟨_, rfl, braiding_zero _ _ (fun b hb => hb.2), put4_below hbw (Nat.le_refl _)⟩
  have hi2 := inB_t h2.1 h2.2
  have hB : sbB n a = true := by unfold sbB; rw [hi, hi2]; rfl
  obtain ⟨hk0, hk1⟩ := h2
  have hp0 : 0 ≤ a * (n : Int) := Int.mul_nonneg hk0 (by omega)
  have hp1 : a * (n : Int) ≤ 15 * 8 := Int.mul_le_mul (by omega) (by omega) (by omega) (by omega)
  have hw2 : IntKind.i64.wrap (a * (n : Int)) = a * (n : Int) := wr64 _ ⟨by omega, by omega⟩
  by_cases h3 : a * (n : Int) % 2 = 1
  · have hE := hide (sb_2 (n := n) (a := a) hB h3)
    obtain ⟨q, hq⟩ : ∃ q, a * (n : Int) = q := ⟨_, rfl⟩
    replace hw2 : IntKind.i64.wrap (a * (n : Int)) = q := hw2.trans hq
    rw [hq] at h3 hp0 hp1
    have hw3 : q.tmod 2 = 1 := by rw [Int.tmod_eq_emod_of_nonneg hp0]; exact h3
    clear hq h3
    go_enter Try.func22, Try.ntmps22
    go_wp2_with fail
    refine (l01In_v true n 1 8 _ hi).mono ?_
    rintro e w1 ⟨rfl, d, rfl⟩
    go_wp2_with fail
    refine (l01In_v true a 0 (2 * n - 1) _ hi2).mono ?_
    rintro e w1 ⟨rfl, d2, rfl⟩
    have br := (br0.drewN d).drewN d2
    have hbw := below_drewN (below_drewN hb0 d) d2
    obtain ⟨w1, hw1⟩ : ∃ w1, ((w.alloc (.cells #[.slice none 0 0, .int .i64 0, .slice none 0 0, .slice none 0 0] 37)).drewN d).drewN d2 = w1 := ⟨_, rfl⟩
    rw [hw1] at br hbw ⊢
    clear hw1 br0 hb0
    have gg0 := br.frozen 0
    have gg1 := br.frozen 1
    have gg2 := br.frozen 2
    have gg3 := br.frozen 3
    have y0 := br.cell 0
    have y1 := br.cell 1
    have y2 := br.cell 2
    have y3 := br.cell 3
    have hb4 := put4_blk (x := .slice none 0 0) (y := .int .i64 0) (z := .slice none 0 0) (u := .slice none 0 0) br
    have q0 := hb4.cell 0
    have q1 := hb4.cell 1
    have q2 := hb4.cell 2
    have q3 := hb4.cell 3
    unfold put4 put3 at q0 q1 q2 q3
    go_wp2_with fail
    refine bodyPost_ret (v := .tuple #[.agg #[.slice none 0 0, .int .i64 0, .slice none 0 0, .slice none 0 0], .int .i64 5]) (by simp [results, Try.results22, go_sem, q0, q1, q2, q3]) rfl ?_
    rw [hE.out.1, hE.out.2]
    exact ⟨_, rfl, braiding_zero _ _ (fun b hb => hb.2), put4_below hbw (Nat.le_refl _)⟩
  have hE := hide (sb_3 (n := n) (a := a) hB h3)
  have HS := hide (fun W => l18Standard_any W n a (by omega) (by omega) hk0 (by omega))
  obtain ⟨q, hq⟩ : ∃ q, a * (n : Int) = q := ⟨_, rfl⟩
  replace hw2 : IntKind.i64.wrap (a * (n : Int)) = q := hw2.trans hq
  rw [hq] at h3 hp0 hp1
  have hw3 : q.tmod 2 = 0 := by rw [Int.tmod_eq_emod_of_nonneg hp0]; omega
  clear hq h3
  go_enter Try.func22, Try.ntmps22
  go_wp2_with fail
  refine (l01In_v true n 1 8 _ hi).mono ?_
  rintro e w1 ⟨rfl, d, rfl⟩
  go_wp2_with fail
  refine (l01In_v true a 0 (2 * n - 1) _ hi2).mono ?_
  rintro e w1 ⟨rfl, d2, rfl⟩
  have br := (br0.drewN d).drewN d2
  have hbw := below_drewN (below_drewN hb0 d) d2
  obtain ⟨w1, hw1'⟩ : ∃ w1, ((w.alloc (.cells #[.slice none 0 0, .int .i64 0, .slice none 0 0, .slice none 0 0] 37)).drewN d).drewN d2 = w1 := ⟨_, rfl⟩
  rw [hw1'] at br hbw ⊢
  have hrl := br.lt
  clear hw1' br0 hb0
  go_wp2_with fail
  refine (HS.out w1).mono ?_
  rintro e w2 ⟨v, rfl, he, hb2⟩
  obtain ⟨A1, n1, c1, z1, D1, m1, e1, H1, l1, g1, rfl, hz1⟩ := braiding_form (braiding_rd he)
  have br2 := br.all hb2
  have hbw2 := hbw.trans (hb2.mono hbw.size)
  clear br hz1
  have gg0 := br2.frozen 0
  have gg1 := br2.frozen 1
  have gg2 := br2.frozen 2
  have gg3 := br2.frozen 3
  have y0 := br2.cell 0
  have y1 := br2.cell 1
  have y2 := br2.cell 2
  have y3 := br2.cell 3
  have hb4 := put4_blk (x := .slice A1 n1 c1) (y := .int .i64 z1) (z := .slice D1 m1 e1) (u := .slice H1 l1 g1) br2
  have q0 := hb4.cell 0
  have q1 := hb4.cell 1
  have q2 := hb4.cell 2
  have q3 := hb4.cell 3
  unfold put4 put3 at q0 q1 q2 q3
  go_wp2_with fail
  refine bodyPost_ret (v := .tuple #[.agg #[.slice A1 n1 c1, .int .i64 z1, .slice D1 m1 e1, .slice H1 l1 g1], .int .i64 0]) (by simp [results, Try.results22, go_sem, q0, q1, q2, q3]) rfl ?_
  rw [hE.out.1, hE.out.2]
  exact ⟨_, rfl, braiding_put he hbw2 hrl (Nat.le_refl _), put4_below hbw2 (Nat.le_refl _)⟩
end Go.Proofs.Ythjlpgaoemdmkaa
