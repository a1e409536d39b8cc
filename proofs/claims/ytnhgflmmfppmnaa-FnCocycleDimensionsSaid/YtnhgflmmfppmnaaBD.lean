
/- All numbers of a cochain in a row: the walks of l17Flat and of flat. The lists of coboundaries: the walks of l17Bounds and of coboundaries. The walks of CoboundaryDimension of both sides, and of its law. -/
import Derived.Test.YtnhgflmmfppmnaaX1c
import Derived.Test.YtnhgflmmfppmnaaKC
import Derived.Test.YtnhgflmmfppmnaaNa
import Derived.Test.YtnhgflmmfppmnaaCC
import Derived.Test.YtnhgflmmfppmnaaCO4
import Derived.Test.YtnhgflmmfppmnaaCD3
import Derived.Test.YtnhgflmmfppmnaaCD4
import Derived.Test.YtnhgflmmfppmnaaIX
import Derived.Test.YtnhgflmmfppmnaaOpN
namespace Go.Proofs.Ytnhgflmmfppmnaa
open Go Go.RowKit Grp Rk
set_option linter.unusedSimpArgs false
set_option linter.unusedVariables false
set_option maxRecDepth 100000
def rw1 (n : Nat) (f : Nat → Nat → Int) (y : Nat) : List Int := (List.range n).map (f y)
def fl2 (n : Nat) (f : Nat → Nat → Int) (k : Nat) : List Int := cat (rw1 n f) k
def fl3 (n : Nat) (F : Nat → Nat → Nat → Int) (k : Nat) : List Int := cat (fun x => fl2 n (F x) n) k
theorem cat_zero (xs : Nat → List Int) : cat xs 0 = [] := rfl
theorem cat_len {xs : Nat → List Int} {c k : Nat} (h : ∀ j, (xs j).length = c) : (cat xs k).length = k * c := by
  induction k with
  | zero => simp [cat]
  | succ k ih => rw [cat_succ, List.length_append, ih, h, Nat.succ_mul]
theorem rw1_len (n : Nat) (f : Nat → Nat → Int) (y : Nat) : (rw1 n f y).length = n := by simp [rw1]
theorem fl2_len (n : Nat) (f : Nat → Nat → Int) (k : Nat) : (fl2 n f k).length = k * n := cat_len (rw1_len n f)
theorem fl3_len (n : Nat) (F : Nat → Nat → Nat → Int) (k : Nat) : (fl3 n F k).length = k * (n * n) := cat_len (fun x => fl2_len n (F x) n)
theorem cat_mem {xs : Nat → List Int} {k : Nat} {v : Int} (h : v ∈ cat xs k) : ∃ j, j < k ∧ v ∈ xs j := by
  obtain ⟨j, hj, hv⟩ := List.mem_flatMap.1 h
  exact ⟨j, List.mem_range.1 hj, hv⟩
theorem fl3_mem {n k : Nat} {F : Nat → Nat → Nat → Int} {v : Int} (h : v ∈ fl3 n F k) : ∃ x y z, x < k ∧ y < n ∧ z < n ∧ v = F x y z := by
  obtain ⟨x, hx, h⟩ := cat_mem h
  obtain ⟨y, hy, h⟩ := cat_mem h
  obtain ⟨z, hz, rfl⟩ := List.mem_map.1 h
  exact ⟨x, y, z, hx, hy, List.mem_range.1 hz, rfl⟩
theorem cub_row {n : Nat} {F : Nat → Nat → Nat → Int} {x : Nat} (hx : x < n) : (cub n F)[x]? = some (mat n (F x)) := by
  unfold cub
  rw [List.getElem?_map, List.getElem?_range hx]; rfl
theorem mat_row {n : Nat} {f : Nat → Nat → Int} {y : Nat} (hy : y < n) : (mat n f)[y]? = some (rw1 n f y) := by
  unfold mat
  rw [List.getElem?_map, List.getElem?_range hy]; rfl
theorem cub_len (n : Nat) (F : Nat → Nat → Nat → Int) : (cub n F).length = n := by simp [cub]
theorem mat_len (n : Nat) (f : Nat → Nat → Int) : (mat n f).length = n := by simp [mat]
set_option maxHeartbeats 4000000 in
theorem l17Flat_any (w : World) (A : Option Addr) (k c : Nat) (p : Int) (D : Option Addr) (e n : Nat) (F : Nat → Nat → Nat → Int) (h : Sl3 w w.heap.size D n e (cub n F)) (n1 : 1 ≤ n) (n8 : n ≤ 8) :
    Calls Try.prog 40 #[.agg #[.slice A k c, .int .i64 p, .slice D n e]] w (Mk w (fl3 n F n)) := by
  obtain ⟨i0, hi0, hz0, hz1, hz2⟩ := info_parts int_info
  go_enter Try.func40, Try.ntmps40
  go_wp2_with fail
  obtain ⟨W, hW⟩ : ∃ W, (w.alloc (.cells #[.slice A k c, .int .i64 p, .slice D n e] 37)).alloc (.cells #[] 2) = W := ⟨_, rfl⟩
  have bc : Blk W w.heap.size 37 #[.slice A k c, .int .i64 p, .slice D n e] := by rw [← hW]; exact (Blk.new _ _ _).alloc _
  have hb0 : Below w.heap.size w W := by rw [← hW]; exact (by repeat (first | assumption | exact Below.refl _ _ | apply below_drewN | apply Below.drew | apply Below.alloc | apply Below.setCell | omega | (focus (simp; done)) | (focus (simp; omega))))
  have hs0 : W.heap.size = w.heap.size + 2 := by rw [← hW]; simp
  have hO0 : Ow W (w.heap.size + 1) (.slice (some ⟨w.heap.size + 1, 0, none⟩) 0 0) (fl3 n F 0) := by rw [← hW]; exact Ow.made' (xs := []) _ _ (w.heap.size + 1) 0 (by simp) rfl (Nat.le_refl _) rfl (by unfold maxLen; omega)
  rw [hW]
  clear hW
  obtain ⟨b, off, rfl, hb⟩ := RdL.addr h (by omega)
  have hB0 : Below (w.heap.size + 1) W W := Below.refl _ _
  go_loopw [3, 4] (fun o i wr => ∃ (x : Nat) (vv : Value), x ≤ n ∧ vv = o ∧ i = .int .i64 x ∧ Ow wr (w.heap.size + 1) vv (fl3 n F x) ∧ Below (w.heap.size + 1) W wr) (fun _ i _ => n - (intOf i).toNat)
  case atStart => exact ⟨0, _, by omega, rfl, rfl, hO0, hB0⟩
  case round =>
    clear hO0 hB0
    obtain ⟨x, vv, hx, rfl, rfl, hO, hB⟩ := hrel
    have c2 := (bc.below hB (by omega)).cell 2
    by_cases hlx : x < n
    · have hO' : Ow wr (w.heap.size + 1) vv (fl3 n F x ++ fl2 n (F x) 0) := by unfold fl2; rw [cat_zero, List.append_nil]; exact hO
      go_wp2_with fail
      clear c2
      go_loopw [3, 5] (fun o i wr => ∃ (y : Nat) (vv : Value), y ≤ n ∧ vv = o ∧ i = .int .i64 y ∧ Ow wr (w.heap.size + 1) vv (fl3 n F x ++ fl2 n (F x) y) ∧ Below (w.heap.size + 1) W wr) (fun _ i _ => n - (intOf i).toNat)
      case atStart => exact ⟨0, _, by omega, rfl, rfl, hO', hB⟩
      case round =>
        clear hO' hO hB
        obtain ⟨y, vv, hy, rfl, rfl, hO, hB⟩ := hrel
        have c2 := (bc.below hB (by omega)).cell 2
        by_cases hly : y < n
        · have hw := hb0.trans (hB.mono (by omega))
          obtain ⟨A1, n1', c1, e1, s1⟩ := (h.below hw).row (cub_row hlx)
          have hl1 := s1.len
          rw [mat_len] at hl1
          subst hl1
          obtain ⟨b1, o1, rfl, hb1⟩ := RdL.addr s1 (by omega)
          obtain ⟨A2, n2, c2', e2, s2⟩ := s1.row (mat_row hly)
          have hl2 := s2.len
          rw [rw1_len] at hl2
          subst hl2
          obtain ⟨b2, o2, rfl, hb2⟩ := Sl.addr s2 (by omega)
          have HN := hide (show fl2 n (F x) (y + 1) = fl2 n (F x) y ++ rw1 n (F x) y from cat_succ _ _)
          obtain ⟨zs, hzs⟩ : ∃ zs, rw1 n (F x) y = zs := ⟨_, rfl⟩
          have hzl : zs.length = n := by rw [← hzs]; exact rw1_len _ _ _
          rw [hzs] at HN s2
          have hlen : (fl3 n F x ++ fl2 n (F x) y).length ≤ 10000 := by
            rw [List.length_append, fl3_len, fl2_len]
            have a1 : n * n ≤ 8 * 8 := Nat.mul_le_mul n8 n8
            have a2 : x * (n * n) ≤ 8 * 64 := Nat.mul_le_mul (by omega) a1
            have a3 : y * n ≤ 8 * 8 := Nat.mul_le_mul (by omega) n8
            omega
          obtain ⟨pre, hpre⟩ : ∃ pre, fl3 n F x ++ fl2 n (F x) y = pre := ⟨_, rfl⟩
          have HP := hide (show fl3 n F x ++ fl2 n (F x) (y + 1) = pre ++ zs by rw [HN.out, ← List.append_assoc, hpre])
          rw [hpre] at hO hlen
          have hzs2 : zs.length ≤ 8 := by omega
          have hsz := hB.size
          have hsB : w.heap.size + 1 ≤ wr.heap.size := by omega
          have s2' : Sl wr w.heap.size (some ⟨b2, o2, none⟩) zs.length c2' zs := by rw [hzl]; exact s2
          have HZL := hide hzl
          clear hzs hpre HN
          go_wp2_with (at_builtin; refine wpList_append_own _ rfl _ _ 24 rfl (w.heap.size + 1) 2 i0 _ 1 8 Try.underlying24 hi0 hz0 hz1 hz2 rfl (by omega) vv _ _ rfl hO _ n c2' (zs.map (Value.int .i64)) rfl (by rw [List.length_map, Nat.mul_one]; exact HZL.out) s2'.news ints_one (by unfold maxLen; omega) (by omega) (by omega) ?_; intro v' w' g2 g3 g4)
          have HO := hide (show Ow w' (w.heap.size + 1) v' (fl3 n F x ++ fl2 n (F x) (y + 1)) by
            rw [HP.out]
            unfold Ow
            rw [List.length_append, List.map_append, HZL.out]
            simpa using g2)
          have HB2 := hide (hB.grown g3 hsB (fun k hk => (hO.lt k hk).1))
          clear g2 g3 hO hB c2
          go_roundw
          case rel => exact ⟨y + 1, _, by omega, rfl, by go_num, HO.out, HB2.out⟩
          case measure => simp [intOf] <;> omega
        · obtain rfl : n = y := by omega
          have hO2 : Ow wr (w.heap.size + 1) vv (fl3 n F (x + 1)) := by
            have : fl3 n F (x + 1) = fl3 n F x ++ fl2 n (F x) n := cat_succ _ _
            rw [this]; exact hO
          go_wp2_with fail
          go_roundw
          case rel => exact ⟨x + 1, _, by omega, rfl, by go_num, hO2, hB⟩
          case measure => simp [intOf] <;> omega
    · obtain rfl : n = x := by omega
      go_wp2_with fail
      go_ret
      exact ⟨vv, rfl, hO.less (by omega), hb0.trans (hB.mono (by omega))⟩
set_option maxHeartbeats 4000000 in
theorem flat_any (w : World) (A : Option Addr) (k c : Nat) (p : Int) (D : Option Addr) (e n : Nat) (F : Nat → Nat → Nat → Int) (h : Sl3 w w.heap.size D n e (cub n F)) (n1 : 1 ≤ n) (n8 : n ≤ 8) :
    Calls Try.prog 39 #[.agg #[.slice A k c, .int .i64 p, .slice D n e]] w (Mk w (fl3 n F n)) := by
  obtain ⟨i0, hi0, hz0, hz1, hz2⟩ := info_parts int_info
  go_enter Try.func39, Try.ntmps39
  go_wp2_with fail
  obtain ⟨W, hW⟩ : ∃ W, (w.alloc (.cells #[.slice A k c, .int .i64 p, .slice D n e] 37)).alloc (.cells #[] 2) = W := ⟨_, rfl⟩
  have bc : Blk W w.heap.size 37 #[.slice A k c, .int .i64 p, .slice D n e] := by rw [← hW]; exact (Blk.new _ _ _).alloc _
  have hb0 : Below w.heap.size w W := by rw [← hW]; exact (by repeat (first | assumption | exact Below.refl _ _ | apply below_drewN | apply Below.drew | apply Below.alloc | apply Below.setCell | omega | (focus (simp; done)) | (focus (simp; omega))))
  have hs0 : W.heap.size = w.heap.size + 2 := by rw [← hW]; simp
  have hO0 : Ow W (w.heap.size + 1) (.slice (some ⟨w.heap.size + 1, 0, none⟩) 0 0) (fl3 n F 0) := by rw [← hW]; exact Ow.made' (xs := []) _ _ (w.heap.size + 1) 0 (by simp) rfl (Nat.le_refl _) rfl (by unfold maxLen; omega)
  have c2 := bc.cell 2
  rw [hW]
  clear hW
  obtain ⟨b, off, rfl, hb⟩ := RdL.addr h (by omega)
  have hB0 : Below (w.heap.size + 1) W W := Below.refl _ _
  go_wp2_with fail
  clear c2
  go_loopw [3, 10] (fun o i wr => ∃ (x : Nat) (vv : Value), x ≤ n ∧ vv = o ∧ i = .int .i64 x ∧ Ow wr (w.heap.size + 1) vv (fl3 n F x) ∧ Below (w.heap.size + 1) W wr) (fun _ i _ => n - (intOf i).toNat)
  case atStart => exact ⟨0, _, by omega, rfl, rfl, hO0, hB0⟩
  case round =>
    clear hO0 hB0
    obtain ⟨x, vv, hx, rfl, rfl, hO, hB⟩ := hrel
    by_cases hlx : x < n
    · have hw := hb0.trans (hB.mono (by omega))
      have hwr : Sl3 wr wr.heap.size (some ⟨b, off, none⟩) n e (cub n F) := (h.below hw).more hw.size
      obtain ⟨A1, n1', c1, e1, s1⟩ := hwr.row (cub_row hlx)
      have hl1 := s1.len
      rw [mat_len] at hl1
      subst hl1
      obtain ⟨b1, o1, rfl, hb1⟩ := RdL.addr s1 (by omega)
      have hrows : ∀ y, y < n → ∃ z : Option Addr × Nat, wr.cell? ⟨b1, o1 + y, none⟩ = some (.slice z.1 n z.2) ∧ Sl wr wr.heap.size z.1 n z.2 (rw1 n (F x) y) := fun y hy => by
        obtain ⟨A2, n2, c2', e2, s2⟩ := s1.row (mat_row hy)
        have hl2 := s2.len
        rw [rw1_len] at hl2
        subst hl2
        exact ⟨(A2, c2'), e2, s2⟩
      obtain ⟨zf, hzf⟩ := Go.Deep.choose_lt hrows
      have a1 : n * n ≤ 8 * 8 := Nat.mul_le_mul n8 n8
      have a0 : 1 * 1 ≤ n * n := Nat.mul_le_mul n1 n1
      have hcl : (cat (rw1 n (F x)) n).length = n * n := fl2_len n (F x) n
      have HC := hide (concat_any wr b1 o1 n c1 (fun y => (zf y).1) (fun _ => n) (fun y => (zf y).2) (rw1 n (F x)) (fun y hy => (hzf y hy).1) hb1 (fun y hy => (hzf y hy).2) (fun y _ => n1) (by omega) (by rw [hcl]; omega) (by rw [hcl]; omega))
      have hlen : (fl3 n F x).length ≤ 10000 := by
        rw [fl3_len]
        have a2 : x * (n * n) ≤ 8 * 64 := Nat.mul_le_mul (by omega) a1
        omega
      have HN := hide (show fl3 n F (x + 1) = fl3 n F x ++ cat (rw1 n (F x)) n from cat_succ _ _)
      have hrng : ∀ v ∈ cat (rw1 n (F x)) n, i64ok v := fun v hv => by
        obtain ⟨y, hy, hv⟩ := cat_mem hv
        exact (hzf y hy).2.rng v hv
      have HRG := hide hrng
      obtain ⟨zs, hzs⟩ : ∃ zs, cat (rw1 n (F x)) n = zs := ⟨_, rfl⟩
      rw [hzs] at HC HN HRG hcl
      have hzl : zs.length ≤ 64 := by omega
      have hzl1 : 1 ≤ zs.length := by omega
      have hsz := hB.size
      have hsB : w.heap.size + 1 ≤ wr.heap.size := by omega
      obtain ⟨pre, hpre⟩ : ∃ pre, fl3 n F x = pre := ⟨_, rfl⟩
      rw [hpre] at hO hlen HN
      clear hzs hcl hrows hzf hrng a1 a0 hpre
      go_wp2_with fail
      refine HC.out.mono ?_
      rintro en w1 ⟨v1, rfl, h1, hb2⟩
      obtain ⟨A3, c3, rfl, s3⟩ := h1.sl HRG.out
      obtain ⟨b3, o3, rfl, hb3⟩ := Sl.addr s3 hzl1
      have hO1 := hO.below hb2
      have hB1 := hB.trans (hb2.mono hsB)
      have hsB1 : w.heap.size + 1 ≤ w1.heap.size := by have := hb2.size; omega
      clear hO hB h1
      go_wp2_with (at_builtin; refine wpList_append_own _ rfl _ _ 24 rfl (w.heap.size + 1) 2 i0 _ 1 8 Try.underlying24 hi0 hz0 hz1 hz2 rfl (by omega) vv _ _ rfl hO1 _ zs.length c3 (zs.map (Value.int .i64)) rfl (by simp) s3.news ints_one (by unfold maxLen; omega) (by omega) (by omega) ?_; intro v' w' g2 g3 g4)
      have HO := hide (show Ow w' (w.heap.size + 1) v' (fl3 n F (x + 1)) by
        rw [HN.out]
        unfold Ow
        rw [List.length_append, List.map_append]
        simpa using g2)
      have HB2 := hide (hB1.grown g3 hsB1 (fun k hk => (hO1.lt k hk).1))
      clear g2 g3 hO1 hB1
      go_roundw
      case rel => exact ⟨x + 1, _, by omega, rfl, by go_num, HO.out, HB2.out⟩
      case measure => simp [intOf] <;> omega
    · obtain rfl : n = x := by omega
      go_wp2_with fail
      go_ret
      exact ⟨vv, rfl, hO.less (by omega), hb0.trans (hB.mono (by omega))⟩
/-- The pairing with one number 1. -/
def unitL (n x y : Nat) : List (List Int) := (List.replicate n (List.replicate n 0)).set x ((List.replicate n 0).set y 1)
theorem unitL_mat {n x y : Nat} {p : Int} (hp : 2 ≤ p) : MatM n p (unitL n x y) := by
  refine ⟨by simp [unitL], fun r hr => ?_⟩
  have h0 : RowM n p (List.replicate n 0) := ⟨by simp, fun v hv => by rw [List.eq_of_mem_replicate hv]; omega⟩
  rcases List.mem_or_eq_of_mem_set hr with h | rfl
  · rw [List.eq_of_mem_replicate h]; exact h0
  · refine ⟨by simp, fun v hv => ?_⟩
    rcases List.mem_or_eq_of_mem_set hv with h | rfl
    · exact h0.2 v h
    · omega
def bndR (os : List Int) (p : Int) (n x y : Nat) : List Int := fl3 n (cobF os p (unitL n x y)) n
def blL (os : List Int) (p : Int) (n x y : Nat) : List (List Int) := ((List.range (x - 1)).flatMap fun a => (List.range (n - 1)).map fun b => bndR os p n (a + 1) (b + 1)) ++ (List.range (y - 1)).map fun b => bndR os p n x (b + 1)
theorem blL_start (os : List Int) (p : Int) (n : Nat) : blL os p n 1 1 = [] := by simp [blL]
theorem blL_step {os : List Int} {p : Int} {n x y : Nat} (hy : 1 ≤ y) : blL os p n x (y + 1) = blL os p n x y ++ [bndR os p n x y] := by
  unfold blL
  rw [List.append_assoc]
  congr 1
  have e : y + 1 - 1 = (y - 1) + 1 := by omega
  rw [e, List.range_succ, List.map_append]
  simp only [List.map_cons, List.map_nil]
  rw [show y - 1 + 1 = y by omega]
theorem blL_next {os : List Int} {p : Int} {n x : Nat} (hx : 1 ≤ x) : blL os p n x n = blL os p n (x + 1) 1 := by
  unfold blL
  have e : x + 1 - 1 = (x - 1) + 1 := by omega
  rw [e, List.range_succ, List.flatMap_append]
  simp only [List.flatMap_cons, List.flatMap_nil, List.append_nil, Nat.sub_self, List.range_zero, List.map_nil]
  rw [show x - 1 + 1 = x by omega]
theorem blL_len (os : List Int) (p : Int) (n x y : Nat) : (blL os p n x y).length = (x - 1) * (n - 1) + (y - 1) := by
  unfold blL
  rw [List.length_append, List.length_map, List.length_range]
  congr 1
  generalize x - 1 = k
  induction k with
  | zero => simp
  | succ k ih => rw [List.range_succ, List.flatMap_append, List.length_append, ih]; simp [Nat.succ_mul]
theorem bndR_in {os : List Int} {p : Int} {n x y : Nat} (hp : 2 ≤ p) : In01 p (n * (n * n)) (bndR os p n x y) := by
  refine ⟨fl3_len _ _ _, fun j hj => ?_⟩
  have hl : j < (bndR os p n x y).length := by unfold bndR; rw [fl3_len]; exact hj
  obtain ⟨a, b, c, _, _, _, e⟩ := fl3_mem (gi_mem hl)
  rw [show gi (bndR os p n x y) j = _ from e]
  unfold cobF
  exact ⟨Int.emod_nonneg _ (by omega), Int.emod_lt_of_pos _ (by omega)⟩
theorem blL_in {os : List Int} {p : Int} {n x y : Nat} (hp : 2 ≤ p) : ∀ r ∈ blL os p n x y, In01 p (n * (n * n)) r := by
  intro r hr
  rcases List.mem_append.1 hr with h | h
  · obtain ⟨a, _, h⟩ := List.mem_flatMap.1 h
    obtain ⟨b, _, rfl⟩ := List.mem_map.1 h
    exact bndR_in hp
  · obtain ⟨b, _, rfl⟩ := List.mem_map.1 h
    exact bndR_in hp
set_option maxHeartbeats 8000000 in
theorem l17Bounds_any (w : World) (A : Option Addr) (c : Nat) (os : List Int) (p : Int) (n : Nat) (h : Sl w w.heap.size A os.length c os) (hnn : os.length ≤ 1048576) (hO : OrdH os) (hpn : (n : Int) = prodL os) (hn6 : n ≤ 6) (hp4 : Pr4 p) :
    Calls Try.prog 25 #[.slice A os.length c, .int .i64 p] w (MkE E2 w (blL os p n n 1)) := by
  have hpr := hp4.rng
  have hpos := prodL_pos hO.2
  have hn1 : 1 ≤ n := by omega
  have hH := okH_of hO hnn (by omega)
  have HPN := hide hpn
  have HZ := hide (by
    have h9 := l17Size_any w w.heap.size A os.length c os h hnn hO.2
    rw [show min (9 : Int) (prodL os) = (n : Int) by omega] at h9
    exact h9)
  have hmk := fun W => run_make (P := Try.prog) (w := W) 24 2 (info_parts int_info).choose (.int .i64 0) Try.underlying24 (info_parts int_info).choose_spec.1 (info_parts int_info).choose_spec.2.1 .i64 .i64 n n (by omega) (by omega) (by rw [(info_parts int_info).choose_spec.2.2.2]; omega) (by omega)
  simp only [(info_parts int_info).choose_spec.2.2.1, Int.toNat_natCast, Nat.mul_one] at hmk
  have HMK := hide hmk
  clear hpn hpos hmk
  go_enter Try.func25, Try.ntmps25
  go_wp2_with fail
  refine HZ.out.mono ?_
  rintro e w1 ⟨rfl, d, rfl⟩
  go_wp2_with fail
  have hG0 : Grow E1 24 w.heap.size (World.alloc (World.drewN w d) (.cells #[] 24)) (.slice (some ⟨w.heap.size, 0, none⟩) 0 0) (blL os p n 1 1) := by rw [blL_start]; exact Grow.start rfl (Nat.le_refl _)
  have hB0 : Below w.heap.size w (World.alloc (World.drewN w d) (.cells #[] 24)) := (below_drewN (Below.refl _ _) _).alloc (Nat.le_refl _) _
  obtain ⟨W, hW⟩ : ∃ W, World.alloc (World.drewN w d) (.cells #[] 24) = W := ⟨_, rfl⟩
  rw [hW] at hG0 hB0 ⊢
  clear hW
  go_loopw [6, 7] (fun o i wr => ∃ (x : Nat) (vE : Value), 1 ≤ x ∧ x ≤ n ∧ vE = o ∧ i = .int .i64 x ∧ Grow E1 24 w.heap.size wr vE (blL os p n x 1) ∧ Below w.heap.size w wr) (fun _ i _ => n - (intOf i).toNat)
  case atStart => exact ⟨1, _, by omega, by omega, rfl, rfl, hG0, hB0⟩
  case round =>
    clear hG0 hB0
    obtain ⟨x, vE, hx1, hxn, rfl, rfl, hG, hB⟩ := hrel
    by_cases hlx : x < n
    · go_wp2_with fail
      go_loopw [6, 8] (fun o i wr => ∃ (y : Nat) (vE : Value), 1 ≤ y ∧ y ≤ n ∧ vE = o ∧ i = .int .i64 y ∧ Grow E1 24 w.heap.size wr vE (blL os p n x y) ∧ Below w.heap.size w wr) (fun _ i _ => n - (intOf i).toNat)
      case atStart => exact ⟨1, _, by omega, by omega, rfl, rfl, hG, hB⟩
      case round =>
        clear hG hB
        obtain ⟨y, vE, hy1, hyn, rfl, rfl, hG, hB⟩ := hrel
        by_cases hly : y < n
        · obtain ⟨w0, rfl⟩ : ∃ w0, w0 = wr := ⟨_, rfl⟩
          have hGf0 : Grow E1 24 w0.heap.size (w0.alloc (.cells #[] 24)) (.slice (some ⟨w0.heap.size, 0, none⟩) 0 0) (List.replicate 0 (List.replicate n 0)) := Grow.start rfl (Nat.le_refl _)
          go_wp2_with fail
          go_loopw [9, 10] (fun o i wx => ∃ (q : Nat) (vv : Value), q ≤ n ∧ vv = o ∧ i = .int .i64 q ∧ Grow E1 24 w0.heap.size wx vv (List.replicate q (List.replicate n 0)) ∧ Below w0.heap.size w0 wx) (fun _ i _ => n - (intOf i).toNat)
          case atStart => exact ⟨0, _, by omega, rfl, rfl, hGf0, (Below.refl _ _).alloc (Nat.le_refl _) _⟩
          case round =>
            clear hGf0
            obtain ⟨q, vv, hq, rfl, rfl, hGf, hBf⟩ := hrel
            by_cases hlq : q < n
            · have hE := E1.zeros wr n wr.heap.size rfl (by unfold maxLen; omega)
              have hbw : Below wr.heap.size wr ((wr.alloc (.cells (madeCells #[.int .i64 0] n) 2)).alloc (.cells #[.slice (some ⟨wr.heap.size, 0, none⟩) n n] 24)) := ((Below.refl _ _).alloc (Nat.le_refl _) _).alloc (by simp) _
              have hE2 := E1.below hE ((Below.refl _ _).alloc (Nat.le_refl _) (.cells #[.slice (some ⟨wr.heap.size, 0, none⟩) n n] 24))
              have hsz := hBf.size
              have hlen : (List.replicate q (List.replicate n (0 : Int))).length ≤ 1048576 := by simp; omega
              have hmk := HMK.out
              go_wp2_with (at_builtin; refine list_pushG kp1 39 24 _ 24 Try.underlying39 rows_info (by omega) rfl _ rfl _ _ rfl w0.heap.size vv _ rfl wr hGf hbw (.slice (some ⟨wr.heap.size, 0, none⟩) n n) _ _ hE2 (by rintro b rfl; exact ⟨Nat.le_refl _, by simp; omega⟩) rfl (wr.heap.size + 1) _ rfl (Blk.new' _ _ _ _ (by simp)) hlen hsz (by simp) ?_; intro g cap w4 hG4 hB4 hW4 hg4 hg5)
              have hbx := (hBf.trans (hbw.mono hsz)).trans hB4
              clear hmk
              go_roundw
              case rel => exact ⟨q + 1, _, by omega, rfl, by go_num, by (have h9 := hG4); rw [List.length_replicate] at h9; rw [← rep_snoc]; exact h9, hbx⟩
              case measure => simp [intOf] <;> omega
            · obtain rfl : n = q := by omega
              have hF := hGf.toL
              obtain ⟨wf, rfl⟩ : ∃ wf, wf = wr := ⟨_, rfl⟩
              clear hGf
              obtain ⟨gf, cf, hvf, hgf, hgfl, _⟩ := E2.own_form hF (by simp; omega)
              rw [List.length_replicate] at hvf
              subst hvf
              have hrow0 : (List.replicate n (List.replicate n (0 : Int))).getD x [] = List.replicate n 0 := by simp [List.getD, hlx]
              obtain ⟨gr, cr, fr, _, hgrl, hgr, _, hnum, hput⟩ := E2.rowAt (i := x) (m := n) hF (by simp) hlx (by rw [hrow0]; simp) (by omega)
              have fn := hnum y hly
              obtain ⟨hfz, hE⟩ := hput y 1 hly ⟨by omega, by omega⟩
              rw [hrow0] at hE fn
              clear hput hnum hrow0
              go_wp2_with fail
              clear fr fn hfz
              obtain ⟨w7, hw7⟩ : ∃ w7, World.setCell wf ⟨gr, y, none⟩ (.int .i64 1) = w7 := ⟨_, rfl⟩
              have hB7 : Below w0.heap.size w0 w7 := by rw [← hw7]; exact hBf.setCell (p := ⟨gr, y, none⟩) hgr.1 _
              rw [hw7] at hE ⊢
              clear hw7 hBf
              have hBw7 := hB.trans (hB7.mono hB.size)
              obtain ⟨AU, cU, eU, sU⟩ := E2.sl2 hE
              have hUl : (unitL n x y).length = n := (unitL_mat (p := p) hpr.1).1
              rw [show ((List.replicate n (List.replicate n (0 : Int))).set x ((List.replicate n 0).set y 1)) = unitL n x y from rfl] at eU sU
              rw [hUl] at eU sU
              injection eU with e1 _ e2
              subst e1
              subst e2
              obtain ⟨bU, oU, b1, o1, c1, eA, VU⟩ := vw_of sU (by omega) (fun r hr => ((unitL_mat (p := p) hpr.1).2 r hr).1)
              injection eA with eA
              injection eA with eA1 eA2 _
              subst eA1
              subst eA2
              have HCB := hide (l17Coboundary_any w7 A os.length c os p gf 0 n cf b1 o1 c1 (unitL n x y) ((h.below hBw7).more hBw7.size) hnn VU hH HPN.out (by omega) (by omega) (by omega) (unitL_mat hpr.1))
              clear sU VU hE hF
              go_wp2_with fail
              refine HCB.out.mono ?_
              rintro e w8 ⟨vC, rfl, heC, hb8⟩
              obtain ⟨h0c, u1, u2, F1, F2, ev, he1, he2, _⟩ := heC
              obtain ⟨AC, cC, eC1, _⟩ := he1.sl
              obtain ⟨DC, eD, eC2, s3⟩ := E3.sl3 he2
              rw [cub_len] at eC2 s3
              subst eC1
              subst eC2
              subst ev
              clear he1 he2 h0c
              have HFL := hide (l17Flat_any w8 AC os.length cC p DC eD n (cobF os p (unitL n x y)) s3 hn1 (by omega))
              have hB8 := hB7.trans (hb8.mono hB7.size)
              clear s3 hb8 hB7
              go_wp2_with fail
              refine HFL.out.mono ?_
              rintro e w9 ⟨v9, rfl, hO9, hb9⟩
              have hin9 := bndR_in (os := os) (n := n) (x := x) (y := y) hpr.1
              have hE9 := E1.of_ow (xs := bndR os p n x y) hO9 (hin9.ok (by omega))
              obtain ⟨A9, c9, rfl, _⟩ := Ow.sl (xs := bndR os p n x y) hO9 (hin9.ok (by omega))
              have hl9 : (bndR os p n x y).length = n * (n * n) := hin9.1
              have hB9 := hB8.trans (hb9.mono hB8.size)
              have hs8 := hB8.size
              have hs9 := hb9.size
              obtain ⟨L9, hL9⟩ : ∃ L, (bndR os p n x y).length = L := ⟨_, rfl⟩
              rw [hL9] at hE9 ⊢
              have hbw := hB9.alloc hB9.size (.cells #[.slice A9 L9 c9] 24)
              have hE10 := E1.below hE9 ((Below.refl _ _).alloc (Nat.le_refl _) (.cells #[.slice A9 L9 c9] 24))
              have hbl : (blL os p n x y).length ≤ 1000 := by
                rw [blL_len]
                have hbl2 : (x - 1) * (n - 1) ≤ 6 * 6 := Nat.mul_le_mul (by omega) (by omega)
                omega
              have hsz := hB.size
              have HST := hide (blL_step (os := os) (p := p) (n := n) (x := x) hy1)
              clear hO9 hin9 hE9 hl9 hL9 hB8 hb9
              go_wp2_with (at_builtin; refine list_pushG kp1 39 24 _ 24 Try.underlying39 rows_info (by omega) rfl _ rfl _ _ rfl w.heap.size vE _ rfl w0 hG hbw (.slice A9 L9 c9) _ _ hE10 (fun b hb => ⟨by have := hb.1; omega, by have := hb.2; simp; omega⟩) rfl w9.heap.size _ rfl (Blk.new _ _ _) (by omega) hsz (by simp) ?_; intro g7 cap7 w10 hG10 hB10 hW10 hg10 hg11)
              have HBX := hide ((hB.trans (hbw.mono hB.size)).trans hB10)
              have HG10 := hide (show Grow E1 24 w.heap.size w10 (.slice (some ⟨g7, 0, none⟩) ((blL os p n x y).length + 1) cap7) (blL os p n x (y + 1)) by rw [HST.out]; exact hG10)
              clear hG10 hB10 hW10 hE10 hbw hbl hG hB
              go_roundw
              case rel => exact ⟨y + 1, _, by omega, by omega, rfl, by go_num, HG10.out, HBX.out⟩
              case measure => simp [intOf] <;> omega
        · obtain rfl : n = y := by omega
          have HG2 := hide (show Grow E1 24 w.heap.size wr vE (blL os p n (x + 1) 1) by rw [← blL_next hx1]; exact hG)
          go_wp2_with fail
          go_roundw
          case rel => exact ⟨x + 1, _, by omega, by omega, rfl, by go_num, HG2.out, hB⟩
          case measure => simp [intOf] <;> omega
    · obtain rfl : n = x := by omega
      go_wp2_with fail
      go_ret
      exact ⟨vE, rfl, hG.toL, hB⟩
set_option maxHeartbeats 8000000 in
theorem coboundaries_any (w : World) (A : Option Addr) (c : Nat) (os : List Int) (p : Int) (n : Nat) (h : Sl w w.heap.size A os.length c os) (hnn : os.length ≤ 1048576) (hO : OrdH os) (hpn : (n : Int) = prodL os) (hn6 : n ≤ 6) (hp4 : Pr4 p) :
    Calls Try.prog 24 #[.slice A os.length c, .int .i64 p] w (MkE E2 w (blL os p n n 1)) := by
  have hpr := hp4.rng
  have hpos := prodL_pos hO.2
  have hn1 : 1 ≤ n := by omega
  have hH := okH_of hO hnn (by omega)
  have HPN := hide hpn
  have HZ := hide (fun W (hW : Sl W w.heap.size A os.length c os) => by
    have h9 := groupSize_any W w.heap.size A os.length c os hW hnn
    rw [gsz_ok hO, show min (17 : Int) (prodL os) = (n : Int) by omega] at h9
    exact h9)
  have hwn : IntKind.i64.wrap (n : Int) = (n : Int) := wr64 _ ⟨by omega, by omega⟩
  clear hpn hpos
  go_enter Try.func24, Try.ntmps24
  go_wp2_with fail
  have hG0 : Grow E1 24 w.heap.size (w.alloc (.cells #[] 24)) (.slice (some ⟨w.heap.size, 0, none⟩) 0 0) (blL os p n 1 1) := by rw [blL_start]; exact Grow.start rfl (Nat.le_refl _)
  have hB0 : Below w.heap.size w (w.alloc (.cells #[] 24)) := (Below.refl _ _).alloc (Nat.le_refl _) _
  obtain ⟨W, hW⟩ : ∃ W, w.alloc (.cells #[] 24) = W := ⟨_, rfl⟩
  rw [hW] at hG0 hB0 ⊢
  clear hW
  refine (HZ.out _ (h.below hB0)).mono ?_
  rintro e w1 ⟨rfl, d, rfl⟩
  have hG1 : Grow E1 24 w.heap.size (World.drewN W d) (.slice (some ⟨w.heap.size, 0, none⟩) 0 0) (blL os p n 1 1) := hG0.bel kp1 (below_drewN (Below.refl _ _) _)
  have hB1 := below_drewN hB0 d
  clear hG0 hB0
  go_wp2_with fail
  go_loopw [5, 7] (fun o i wr => ∃ (x : Nat) (vE : Value), 1 ≤ x ∧ x ≤ n ∧ vE = o ∧ i = .int .i64 x ∧ Grow E1 24 w.heap.size wr vE (blL os p n x 1) ∧ Below w.heap.size w wr) (fun _ i _ => n - (intOf i).toNat)
  case atStart => exact ⟨1, _, by omega, by omega, rfl, rfl, hG1, hB1⟩
  case round =>
    clear hG1 hB1
    obtain ⟨x, vE, hx1, hxn, rfl, rfl, hG, hB⟩ := hrel
    by_cases hlx : x < n
    · go_wp2_with fail
      go_loopw [5, 8] (fun o i wr => ∃ (y : Nat) (vE : Value), 1 ≤ y ∧ y ≤ n ∧ vE = o ∧ i = .int .i64 y ∧ Grow E1 24 w.heap.size wr vE (blL os p n x y) ∧ Below w.heap.size w wr) (fun _ i _ => n - (intOf i).toNat)
      case atStart => exact ⟨1, _, by omega, by omega, rfl, rfl, hG, hB⟩
      case round =>
        clear hG hB
        obtain ⟨y, vE, hy1, hyn, rfl, rfl, hG, hB⟩ := hrel
        by_cases hly : y < n
        · obtain ⟨w0, rfl⟩ : ∃ w0, w0 = wr := ⟨_, rfl⟩
          go_wp2_with fail
          refine (zeros_any w0 n n (by omega) (by omega)).mono ?_
          rintro e wf ⟨vv, rfl, hGf, hBf⟩
          have hF := hGf.toL
          clear hGf
          obtain ⟨gf, cf, hvf, hgf, hgfl, _⟩ := E2.own_form hF (by simp; omega)
          rw [List.length_replicate] at hvf
          subst hvf
          have hrow0 : (List.replicate n (List.replicate n (0 : Int))).getD x [] = List.replicate n 0 := by simp [List.getD, hlx]
          obtain ⟨gr, cr, fr, _, hgrl, hgr, _, hnum, hput⟩ := E2.rowAt (i := x) (m := n) hF (by simp) hlx (by rw [hrow0]; simp) (by omega)
          have fn := hnum y hly
          obtain ⟨hfz, hE⟩ := hput y 1 hly ⟨by omega, by omega⟩
          rw [hrow0] at hE fn
          clear hput hnum hrow0
          go_wp2_with fail
          clear fr fn hfz
          obtain ⟨w7, hw7⟩ : ∃ w7, World.setCell wf ⟨gr, y, none⟩ (.int .i64 1) = w7 := ⟨_, rfl⟩
          have hB7 : Below w0.heap.size w0 w7 := by rw [← hw7]; exact hBf.setCell (p := ⟨gr, y, none⟩) hgr.1 _
          rw [hw7] at hE ⊢
          clear hw7 hBf
          have hBw7 := hB.trans (hB7.mono hB.size)
          obtain ⟨AU, cU, eU, sU⟩ := E2.sl2 hE
          have hUl : (unitL n x y).length = n := (unitL_mat (p := p) hpr.1).1
          rw [show ((List.replicate n (List.replicate n (0 : Int))).set x ((List.replicate n 0).set y 1)) = unitL n x y from rfl] at eU sU
          rw [hUl] at eU sU
          injection eU with e1 _ e2
          subst e1
          subst e2
          obtain ⟨bU, oU, b1, o1, c1, eA, VU⟩ := vw_of sU (by omega) (fun r hr => ((unitL_mat (p := p) hpr.1).2 r hr).1)
          injection eA with eA
          injection eA with eA1 eA2 _
          subst eA1
          subst eA2
          have HCB := hide (coboundary_any w7 A os.length c os p gf 0 n cf b1 o1 c1 (unitL n x y) ((h.below hBw7).more hBw7.size) hnn VU hH HPN.out (by omega) (by omega) (by omega) (unitL_mat hpr.1))
          clear sU VU hE hF
          go_wp2_with fail
          refine HCB.out.mono ?_
          rintro e w8 ⟨vC, rfl, heC, hb8⟩
          obtain ⟨h0c, u1, u2, F1, F2, ev, he1, he2, _⟩ := heC
          obtain ⟨AC, cC, eC1, _⟩ := he1.sl
          obtain ⟨DC, eD, eC2, s3⟩ := E3.sl3 he2
          rw [cub_len] at eC2 s3
          subst eC1
          subst eC2
          subst ev
          clear he1 he2 h0c
          have HFL := hide (flat_any w8 AC os.length cC p DC eD n (cobF os p (unitL n x y)) s3 hn1 (by omega))
          have hB8 := hB7.trans (hb8.mono hB7.size)
          clear s3 hb8 hB7
          go_wp2_with fail
          refine HFL.out.mono ?_
          rintro e w9 ⟨v9, rfl, hO9, hb9⟩
          have hin9 := bndR_in (os := os) (n := n) (x := x) (y := y) hpr.1
          have hE9 := E1.of_ow (xs := bndR os p n x y) hO9 (hin9.ok (by omega))
          obtain ⟨A9, c9, rfl, _⟩ := Ow.sl (xs := bndR os p n x y) hO9 (hin9.ok (by omega))
          have hl9 : (bndR os p n x y).length = n * (n * n) := hin9.1
          have hB9 := hB8.trans (hb9.mono hB8.size)
          have hs8 := hB8.size
          have hs9 := hb9.size
          obtain ⟨L9, hL9⟩ : ∃ L, (bndR os p n x y).length = L := ⟨_, rfl⟩
          rw [hL9] at hE9 ⊢
          have hbw := hB9.alloc hB9.size (.cells #[.slice A9 L9 c9] 24)
          have hE10 := E1.below hE9 ((Below.refl _ _).alloc (Nat.le_refl _) (.cells #[.slice A9 L9 c9] 24))
          have hbl : (blL os p n x y).length ≤ 1000 := by
            rw [blL_len]
            have hbl2 : (x - 1) * (n - 1) ≤ 6 * 6 := Nat.mul_le_mul (by omega) (by omega)
            omega
          have hsz := hB.size
          have HST := hide (blL_step (os := os) (p := p) (n := n) (x := x) hy1)
          clear hO9 hin9 hE9 hl9 hL9 hB8 hb9
          go_wp2_with (at_builtin; refine list_pushG kp1 39 24 _ 24 Try.underlying39 rows_info (by omega) rfl _ rfl _ _ rfl w.heap.size vE _ rfl w0 hG hbw (.slice A9 L9 c9) _ _ hE10 (fun b hb => ⟨by have := hb.1; omega, by have := hb.2; simp; omega⟩) rfl w9.heap.size _ rfl (Blk.new _ _ _) (by omega) hsz (by simp) ?_; intro g7 cap7 w10 hG10 hB10 hW10 hg10 hg11)
          have HBX := hide ((hB.trans (hbw.mono hB.size)).trans hB10)
          have HG10 := hide (show Grow E1 24 w.heap.size w10 (.slice (some ⟨g7, 0, none⟩) ((blL os p n x y).length + 1) cap7) (blL os p n x (y + 1)) by rw [HST.out]; exact hG10)
          clear hG10 hB10 hW10 hE10 hbw hbl hG hB
          go_roundw
          case rel => exact ⟨y + 1, _, by omega, by omega, rfl, by go_num, HG10.out, HBX.out⟩
          case measure => simp [intOf] <;> omega
        · obtain rfl : n = y := by omega
          have HG2 := hide (show Grow E1 24 w.heap.size wr vE (blL os p n (x + 1) 1) by rw [← blL_next hx1]; exact hG)
          go_wp2_with fail
          go_roundw
          case rel => exact ⟨x + 1, _, by omega, by omega, rfl, by go_num, HG2.out, hB⟩
          case measure => simp [intOf] <;> omega
    · obtain rfl : n = x := by omega
      go_wp2_with fail
      go_ret
      exact ⟨vE, rfl, hG.toL, hB⟩
/-- What CoboundaryDimension returns. -/
noncomputable def bdR (os : List Int) (p : Int) : Int := if spK os p = 0 then (rkN p ((prodL os).toNat * ((prodL os).toNat * (prodL os).toNat)) (GenL (blL os p (prodL os).toNat (prodL os).toNat 1) (blL os p (prodL os).toNat (prodL os).toNat 1).length) : Int) else 0
set_option maxHeartbeats 4000000 in
theorem specBD_c (w : World) (v0 : Value) (os : ints_T) (H0 : ints_R w w.heap.size v0 os) (S0 : ints_Sh os) (p : Int) (wp : i64ok p) :
    Calls Try.prog 9 #[v0, .int .i64 p] w (Re w (.tuple #[.int .i64 (bdR os p), .int .i64 (spK os p)])) := by
  obtain ⟨A, nn, c, rfl, h⟩ := H0
  obtain rfl := h.len
  have hnn : os.length ≤ 1048576 := S0
  have HK := hide (l17Small_any w A os.length c os p h hnn)
  by_cases hK : spK os p = 0
  rotate_left
  · have hE := hide (show bdR os p = 0 by unfold bdR; rw [if_neg hK])
    obtain ⟨q, hq⟩ : ∃ q, spK os p = q := ⟨_, rfl⟩
    rw [hq] at HK hK ⊢
    have t : (q != 0) = true := by simp [hK]
    rw [hE.out]
    clear hK hq hE
    go_enter Try.func9, Try.ntmps9
    go_wp2_with fail
    refine HK.out.mono ?_
    rintro e w1 ⟨rfl, d, rfl⟩
    go_wp2_with fail
    refine bodyPost_ret (v := .tuple #[.int .i64 0, .int .i64 q]) (by simp [results, Try.results9, go_sem]) rfl ?_
    exact ⟨rfl, below_drewN (Below.refl _ _) _⟩
  obtain ⟨hO, hp6, hp4⟩ := spK_0 hK
  have hpr := hp4.rng
  have hpos := prodL_pos hO.2
  obtain ⟨n, hn⟩ : ∃ n : Nat, (prodL os).toNat = n := ⟨_, rfl⟩
  have hpn : (n : Int) = prodL os := by omega
  have hE : bdR os p = (rkN p (n * (n * n)) (GenL (blL os p n n 1) (blL os p n n 1).length) : Int) := by unfold bdR; rw [if_pos hK, hn]
  have hn6 : n ≤ 6 := by omega
  have hM : n * (n * n) ≤ 6 * (6 * 6) := Nat.mul_le_mul hn6 (Nat.mul_le_mul hn6 hn6)
  have HE := hide hE
  have HB := hide (fun W (hW : Sl W W.heap.size A os.length c os) => l17Bounds_any W A c os p n hW hnn hO hpn hn6 hp4)
  have hbl : (blL os p n n 1).length ≤ 1000 := by
    rw [blL_len]
    have hbl2 : (n - 1) * (n - 1) ≤ 6 * 6 := Nat.mul_le_mul (by omega) (by omega)
    omega
  have HIN := hide (blL_in (os := os) (n := n) (x := n) (y := 1) hpr.1)
  rw [hK] at HK ⊢
  clear hn hpn hE hp6 hpos hK
  go_enter Try.func9, Try.ntmps9
  go_wp2_with fail
  refine HK.out.mono ?_
  rintro e w1 ⟨rfl, d, rfl⟩
  go_wp2_with fail
  refine (HB.out _ (h.drewN _)).mono ?_
  rintro e w2 ⟨v2, rfl, he2, hb2⟩
  obtain ⟨A2, c2, rfl, s2⟩ := E2.sl2 he2
  obtain ⟨L, hL⟩ : ∃ L, (blL os p n n 1).length = L := ⟨_, rfl⟩
  rw [hL] at s2 hbl ⊢
  clear he2
  go_wp2_with fail
  refine (l17Rank_any w2 p A2 L c2 (blL os p n n 1) (n * (n * n)) s2 (by omega) (by omega) hp4 HIN.out).mono ?_
  rintro e w3 ⟨r, rfl, hrk, hb3⟩
  skip
  have hrl := hasRk_le hrk
  have hrv := rkN_eq hp4.isP hrk
  have hwr : IntKind.i64.wrap (r : Int) = (r : Int) := wr64 _ ⟨by omega, by omega⟩
  have HRV := hide hrv
  clear hrk hrv hL
  go_wp2_with fail
  refine bodyPost_ret (v := .tuple #[.int .i64 (r : Int), .int .i64 0]) (by simp [results, Try.results9, go_sem]) rfl ?_
  exact ⟨by rw [HE.out, HRV.out], (below_drewN (Below.refl w.heap.size w) d).trans (hb2.trans (hb3.mono hb2.size))⟩
set_option maxHeartbeats 4000000 in
theorem implBD_c (w : World) (v0 : Value) (os : ints_T) (H0 : ints_R w w.heap.size v0 os) (S0 : ints_Sh os) (p : Int) (wp : i64ok p) :
    Calls Try.prog 8 #[v0, .int .i64 p] w (Re w (.tuple #[.int .i64 (bdR os p), .int .i64 (spK os p)])) := by
  obtain ⟨A, nn, c, rfl, h⟩ := H0
  obtain rfl := h.len
  have hnn : os.length ≤ 1048576 := S0
  have HK := hide (spaceCode_any w A os.length c os p h hnn)
  by_cases hK : spK os p = 0
  rotate_left
  · have hE := hide (show bdR os p = 0 by unfold bdR; rw [if_neg hK])
    obtain ⟨q, hq⟩ : ∃ q, spK os p = q := ⟨_, rfl⟩
    rw [hq] at HK hK ⊢
    have t : (q != 0) = true := by simp [hK]
    rw [hE.out]
    clear hK hq hE
    go_enter Try.func8, Try.ntmps8
    go_wp2_with fail
    refine HK.out.mono ?_
    rintro e w1 ⟨rfl, d, rfl⟩
    go_wp2_with fail
    refine bodyPost_ret (v := .tuple #[.int .i64 0, .int .i64 q]) (by simp [results, Try.results8, go_sem]) rfl ?_
    exact ⟨rfl, below_drewN (Below.refl _ _) _⟩
  obtain ⟨hO, hp6, hp4⟩ := spK_0 hK
  have hpr := hp4.rng
  have hpos := prodL_pos hO.2
  obtain ⟨n, hn⟩ : ∃ n : Nat, (prodL os).toNat = n := ⟨_, rfl⟩
  have hpn : (n : Int) = prodL os := by omega
  have hE : bdR os p = (rkN p (n * (n * n)) (GenL (blL os p n n 1) (blL os p n n 1).length) : Int) := by unfold bdR; rw [if_pos hK, hn]
  have hn6 : n ≤ 6 := by omega
  have hM : n * (n * n) ≤ 6 * (6 * 6) := Nat.mul_le_mul hn6 (Nat.mul_le_mul hn6 hn6)
  have HE := hide hE
  have HB := hide (fun W (hW : Sl W W.heap.size A os.length c os) => coboundaries_any W A c os p n hW hnn hO hpn hn6 hp4)
  have hbl : (blL os p n n 1).length ≤ 1000 := by
    rw [blL_len]
    have hbl2 : (n - 1) * (n - 1) ≤ 6 * 6 := Nat.mul_le_mul (by omega) (by omega)
    omega
  have HIN := hide (blL_in (os := os) (n := n) (x := n) (y := 1) hpr.1)
  rw [hK] at HK ⊢
  clear hn hpn hE hp6 hpos hK
  go_enter Try.func8, Try.ntmps8
  go_wp2_with fail
  refine HK.out.mono ?_
  rintro e w1 ⟨rfl, d, rfl⟩
  go_wp2_with fail
  refine (HB.out _ (h.drewN _)).mono ?_
  rintro e w2 ⟨v2, rfl, he2, hb2⟩
  obtain ⟨A2, c2, rfl, s2⟩ := E2.sl2 he2
  obtain ⟨L, hL⟩ : ∃ L, (blL os p n n 1).length = L := ⟨_, rfl⟩
  rw [hL] at s2 hbl ⊢
  clear he2
  go_wp2_with fail
  refine (rankModulo_any w2 p A2 L c2 (blL os p n n 1) (n * (n * n)) s2 (by omega) (by omega) hp4 HIN.out).mono ?_
  rintro e w3 ⟨r, rfl, hrk, hb3⟩
  rw [rows_gen] at hrk
  have hrl := hasRk_le hrk
  have hrv := rkN_eq hp4.isP hrk
  have hwr : IntKind.i64.wrap (r : Int) = (r : Int) := wr64 _ ⟨by omega, by omega⟩
  have HRV := hide hrv
  clear hrk hrv hL
  go_wp2_with fail
  refine bodyPost_ret (v := .tuple #[.int .i64 (r : Int), .int .i64 0]) (by simp [results, Try.results8, go_sem]) rfl ?_
  exact ⟨by rw [HE.out, HRV.out], (below_drewN (Below.refl w.heap.size w) d).trans (hb2.trans (hb3.mono hb2.size))⟩
end Go.Proofs.Ytnhgflmmfppmnaa
