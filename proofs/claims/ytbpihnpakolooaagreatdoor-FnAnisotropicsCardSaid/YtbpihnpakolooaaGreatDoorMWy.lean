
/- Masks of elements, told plainly: the lowest bit of a mask, a mask grown by an element. No program is walked here. slices.Sort at []int64: the library's contract laid at this program, and said of a slice of the call's own. The walk of Metric.generated: a queue of sums, then slices.Sort. Masks walked: maskOf, labelsIn, elementsOf of the program; l11Members of the reference. slices.DeleteFunc walked over the closures of isotropicMasks and lagrangianMasks. The masks of all subgroups, as the program makes them: subgroupMasks walked. The masks of all subgroups, as the reference makes them: l11Masks walked. -/
import Derived.Test.YtbpihnpakolooaaGreatDoorMK
import Derived.Laws.BitsLemmas
import Derived.Lib.TrailingZeros
import Derived.Shelf.SortM.Plain
import Derived.Shelf.SortM.SortNone
import Derived.Ground.SlgmProg
import Derived.Test.YtbpihnpakolooaaGreatDoorChecked
import Derived.Test.YtbpihnpakolooaaGreatDoorBa
import Derived.Test.YtbpihnpakolooaaGreatDoorGN
import Derived.Test.YtbpihnpakolooaaGreatDoorEa
import Derived.Test.YtbpihnpakolooaaGreatDoorIa
import Derived.Test.YtbpihnpakolooaaGreatDoorNa
import Derived.WalkLawsBesides
import Derived.Shelf.Spec.TrailingZeros
import Derived.Ground.Names7Prog
import Derived.Test.YtbpihnpakolooaaGreatDoorRUa
import Derived.Laws.CopyRow
import Derived.Laws.CopyOwn
import GoSem.Builtin.Clear
import Derived.Deep.DeepCutAuto
namespace Go.Proofs.YtbpihnpakolooaaGreatDoor
open Go Go.RowKit Grp Go.Shelf Go.Sort
set_option linter.unusedSimpArgs false
set_option linter.unusedVariables false
set_option maxRecDepth 100000
theorem wraps_i64 (n : Int) (h₀ : 0 ≤ n) (h₁ : n < 2 ^ 62) : IntKind.i64.wrap n = n := wr64 n ⟨by omega, by omega⟩
theorem or64 {a b : Nat} (ha : a < 2 ^ 62) (hb : b < 2 ^ 62) : bits .or .i64 (a : Int) (b : Int) = ((a ||| b : Nat) : Int) := (bits_nat .i64 62 (by decide) wraps_i64 a b ha hb).2
theorem and64 {a b : Nat} (ha : a < 2 ^ 62) (hb : b < 2 ^ 62) : bits .and .i64 (a : Int) (b : Int) = ((a &&& b : Nat) : Int) := (bits_nat .i64 62 (by decide) wraps_i64 a b ha hb).1
theorem msk_snoc {xs : List Int} {k : Nat} (hk : k < xs.length) : msk (xs.take (k + 1)) = msk (xs.take k) ||| 2 ^ (gi xs k).toNat := by
 rw [take_gi hk]; unfold msk; rw [List.foldl_append]; rfl
theorem pow16k {x : Nat} (h : x < 16) : 2 ^ x < 65536 := Nat.lt_of_lt_of_le (Nat.pow_lt_pow_right (by omega) h) (by decide)
theorem low_bits (k m j : Nat) : (2 ^ k * (2 * m + 1)).testBit j = (decide (k ≤ j) && (2 * m + 1).testBit (j - k)) := by
 rw [Nat.mul_comm, Nat.testBit_mul_two_pow]
theorem pred_bits (k m j : Nat) : (2 ^ k * (2 * m + 1) - 1).testBit j = if j < k then true else (2 * m).testBit (j - k) := by
 have hp : 0 < 2 ^ k := Nat.two_pow_pos k
 have e : 2 ^ k * (2 * m + 1) - 1 = 2 ^ k * (2 * m) + (2 ^ k - 1) := by rw [Nat.mul_add]; omega
 rw [e, Nat.testBit_two_pow_mul_add _ (by omega), Nat.testBit_two_pow_sub_one]
 split <;> simp_all
theorem clear_bits (k m j : Nat) : (2 ^ k * (2 * m + 1) &&& (2 ^ k * (2 * m + 1) - 1)).testBit j = ((2 ^ k * (2 * m + 1)).testBit j && decide (j ≠ k)) := by
 rw [Nat.testBit_and, low_bits, pred_bits]
 by_cases h : j < k
 ·simp [show ¬ k ≤ j by omega]
 ·by_cases e : j = k
  ·subst e; simp
  ·obtain ⟨d, rfl⟩ : ∃ d, j = k + (d + 1) := ⟨j - k - 1, by omega⟩
   have e3 : k + (d + 1) - k = d + 1 := by omega
   have d1 : (2 * m + 1) / 2 = m := by omega
   have d2 : (2 * m) / 2 = m := by omega
   simp only [h, if_false, e3, Nat.testBit_succ, d1, d2]
   simp
theorem mems_low {N r : Nat} (h0 : r ≠ 0) (hr : r < 2 ^ N) (hN : N ≤ 64) :
  Lib.ctz 64 r < N ∧ (r &&& (r - 1)) < 2 ^ N ∧ mems N r = ((Lib.ctz 64 r : Nat) : Int) :: mems N (r &&& (r - 1)) := by
 have hr64 : r < 2 ^ 64 := Nat.lt_of_lt_of_le hr (Nat.pow_le_pow_right (by omega) hN)
 obtain ⟨m, hm, hk⟩ := Lib.ctzFrom_spec 64 r (by omega) hr64
 have e : Lib.ctz 64 r = Lib.ctzFrom 64 r := by unfold Lib.ctz; rw [if_neg h0]
 rw [e]
 generalize Lib.ctzFrom 64 r = k at hm hk
 have hkN : k < N := by
  refine (Nat.pow_lt_pow_iff_right (show 1 < 2 by omega)).1 (Nat.lt_of_le_of_lt ?_ hr)
  rw [hm]; exact Nat.le_mul_of_pos_right _ (by omega)
 refine ⟨hkN, Nat.lt_of_le_of_lt Nat.and_le_left hr, ?_⟩
 have hc := fun j => clear_bits k m j
 rw [← hm] at hc
 refine lt_ext (mems_lt _ _) (List.pairwise_cons.2 ⟨fun v hv => ?_, mems_lt _ _⟩) fun v => ?_
 ·have h1 := mem_mems.1 hv
  rw [hc, Bool.and_eq_true, hm, low_bits, Bool.and_eq_true, decide_eq_true_eq, decide_eq_true_eq] at h1
  omega
 ·rw [List.mem_cons, mem_mems, mem_mems, hc, Bool.and_eq_true, decide_eq_true_eq]
  constructor
  ·rintro ⟨a, b, d⟩
   by_cases hv : v.toNat = k
   ·left; omega
   ·exact .inr ⟨a, b, d, hv⟩
  ·rintro (rfl | ⟨a, b, d, _⟩)
   ·refine ⟨by omega, by omega, ?_⟩
    rw [hm, Int.toNat_natCast, low_bits]
    simp
   ·exact ⟨a, b, d⟩
theorem mems_zero (N : Nat) : mems N 0 = [] := by
 unfold mems
 simp
theorem shr_bit (m x : Nat) : (m / 2 ^ x) &&& 1 = if m.testBit x then 1 else 0 := by
 rw [Nat.and_one_is_mod, Nat.testBit_eq_decide_div_mod_eq]
 by_cases h : m / 2 ^ x % 2 = 1
 ·simp [h]
 ·simp [h]; omega
theorem mems_snoc (x m : Nat) : mems (x + 1) m = mems x m ++ (if m.testBit x then [(x : Int)] else []) := by
 unfold mems
 rw [List.range_succ, List.filter_append, List.map_append]
 congr 1
 cases h : m.testBit x <;> simp [h]
def sortLay_ren : Go.Shelf.Ren := ⟨fun | 5 => 57 | 8 => 106 | 7 => 105 | 19 => 146 | 20 => 147 | 10 => 137 | 11 => 138 | 12 => 139 | 13 => 140 | 14 => 141 | 15 => 142 | 16 => 143 | 17 => 144 | 18 => 145 | 30 => 154 | 31 => 155 | 32 => 156 | 33 => 157 | 34 => 158 | 35 => 159 | 40 => 161 | n => n, fun | 23 => 24 | 25 => 2 | 3 => 3 | 32 => 96 | 22 => 24 | 0 => 0 | 44 => 119 | 46 => 48 | 4 => 4 | 36 => 111 | 35 => 110 | 41 => 116 | 5 => 5 | 9 => 9 | 53 => 127 | 57 => 131 | 63 => 135 | 64 => 136 | n => n, fun | n => n⟩
theorem sortLay : Go.Proofs.SlLaysM.n5 Tryz.prog sortLay_ren := {
  mixed := by kernel_rfl
  f5 := ⟨Tryz.f57.name, by decide, Tryz.func57.trans (congrArg some (by kernel_rfl))⟩
  f7 := ⟨Tryz.f105.name, by decide, Tryz.func105.trans (congrArg some (by kernel_rfl))⟩
  f8 := Tryz.func106.trans (congrArg some (by kernel_rfl))
  f10 := ⟨Tryz.f137.name, by decide, Tryz.func137.trans (congrArg some (by kernel_rfl))⟩
  f11 := ⟨Tryz.f138.name, by decide, Tryz.func138.trans (congrArg some (by kernel_rfl))⟩
  f12 := ⟨Tryz.f139.name, by decide, Tryz.func139.trans (congrArg some (by kernel_rfl))⟩
  f13 := ⟨Tryz.f140.name, by decide, Tryz.func140.trans (congrArg some (by kernel_rfl))⟩
  f14 := ⟨Tryz.f141.name, by decide, Tryz.func141.trans (congrArg some (by kernel_rfl))⟩
  f15 := ⟨Tryz.f142.name, by decide, Tryz.func142.trans (congrArg some (by kernel_rfl))⟩
  f16 := ⟨Tryz.f143.name, by decide, Tryz.func143.trans (congrArg some (by kernel_rfl))⟩
  f17 := ⟨Tryz.f144.name, by decide, Tryz.func144.trans (congrArg some (by kernel_rfl))⟩
  f18 := ⟨Tryz.f145.name, by decide, Tryz.func145.trans (congrArg some (by kernel_rfl))⟩
  f19 := Tryz.func146.trans (congrArg some (by kernel_rfl))
  f20 := Tryz.func147.trans (congrArg some (by kernel_rfl))
  f30 := ⟨Tryz.f154.name, by decide, Tryz.func154.trans (congrArg some (by kernel_rfl))⟩
  f31 := Tryz.func155.trans (congrArg some (by kernel_rfl))
  f32 := Tryz.func156.trans (congrArg some (by kernel_rfl))
  f33 := ⟨Tryz.f157.name, by decide, Tryz.func157.trans (congrArg some (by kernel_rfl))⟩
  f34 := ⟨Tryz.f158.name, by decide, Tryz.func158.trans (congrArg some (by kernel_rfl))⟩
  f35 := ⟨Tryz.f159.name, by decide, Tryz.func159.trans (congrArg some (by kernel_rfl))⟩
  f40 := ⟨Tryz.f161.name, by decide, Tryz.func161.trans (congrArg some (by kernel_rfl))⟩
  t0 := Tryz.underlying0
  a0 := Tryz.isAgg0
  z0 := Tryz.sizeOf0
  v0 := Tryz.zeroValue0
  t3 := Tryz.underlying3
  a3 := Tryz.isAgg3
  z3 := Tryz.sizeOf3
  v3 := Tryz.zeroValue3
  t4 := Tryz.underlying4
  a4 := Tryz.isAgg4
  z4 := Tryz.sizeOf4
  v4 := Tryz.zeroValue4
  t5 := Tryz.underlying5
  a5 := Tryz.isAgg5
  z5 := Tryz.sizeOf5
  v5 := Tryz.zeroValue5
  t9 := Tryz.underlying9
  a9 := Tryz.isAgg9
  z9 := Tryz.sizeOf9
  v9 := Tryz.zeroValue9
  t22 := Tryz.underlying24
  a22 := Tryz.isAgg24
  z22 := Tryz.sizeOf24
  v22 := Tryz.zeroValue24
  t23 := Tryz.underlying24
  a23 := Tryz.isAgg24
  z23 := Tryz.sizeOf24
  v23 := Tryz.zeroValue24
  t25 := Tryz.underlying2
  a25 := Tryz.isAgg2
  z25 := Tryz.sizeOf2
  v25 := Tryz.zeroValue2
  t32 := Tryz.underlying96
  a32 := Tryz.isAgg96
  z32 := Tryz.sizeOf96
  v32 := Tryz.zeroValue96
  t35 := Tryz.underlying110
  a35 := Tryz.isAgg110
  z35 := Tryz.sizeOf110
  v35 := Tryz.zeroValue110
  t36 := Tryz.underlying111
  a36 := Tryz.isAgg111
  z36 := Tryz.sizeOf111
  v36 := Tryz.zeroValue111
  t41 := Tryz.underlying116
  a41 := Tryz.isAgg116
  z41 := Tryz.sizeOf116
  v41 := Tryz.zeroValue116
  t44 := Tryz.underlying119
  a44 := Tryz.isAgg119
  z44 := Tryz.sizeOf119
  v44 := Tryz.zeroValue119
  t46 := Tryz.underlying48
  a46 := Tryz.isAgg48
  z46 := Tryz.sizeOf48
  v46 := Tryz.zeroValue48
  t53 := Tryz.underlying127
  a53 := Tryz.isAgg127
  z53 := Tryz.sizeOf127
  v53 := Tryz.zeroValue127
  t57 := Tryz.underlying131
  a57 := Tryz.isAgg131
  z57 := Tryz.sizeOf131
  v57 := Tryz.zeroValue131
  t63 := Tryz.underlying135
  a63 := Tryz.isAgg135
  z63 := Tryz.sizeOf135
  v63 := Tryz.zeroValue135
  t64 := Tryz.underlying136
  a64 := Tryz.isAgg136
  z64 := Tryz.sizeOf136
  v64 := Tryz.zeroValue136 }
def srt (xs : List Int) : List Int := xs.mergeSort (fun x y => decide (x ≤ y))
theorem srt_len (xs : List Int) : (srt xs).length = xs.length := by simp [srt]
theorem holds_int {w : World} {g : Nat} {cur : Array Value} {e : TypeId} {xs : List Int} (hb : w.heap[g]? = some (.cells cur e (0, 0))) (ht : cur.toList.take xs.length = xs.map (Value.int .i64)) : Holds (Value.int .i64) w g 0 xs.toArray := by
 intro j hj
 have hj' : j < xs.length := by simpa using hj
 refine ⟨?_, by simp [World.frozen?, hb]⟩
 have h1 : (cur.toList.take xs.length)[j]? = (xs.map (Value.int .i64))[j]? := by rw [ht]
 rw [List.getElem?_take_of_lt hj'] at h1
 simp only [World.cell?, hb, Nat.zero_add]
 simp only [Option.isSome_none, Bool.false_eq_true, if_false]
 rw [← Array.getElem?_toList, h1]
 simp [hj']
theorem heap_srt {w : World} {g n : Nat} {os : Array Obj} {cur : Array Value} {e : TypeId} {fr : Nat × Nat} (d : Array Int) (hb : w.heap[g]? = some (.cells cur e fr)) :
  (grow (putRow (Value.int .i64) (Sort.ahead w n) g 0 d) os).heap[g]? = some (.cells (putCells (Value.int .i64) 0 d cur) e fr) := by
 have hg : g < w.heap.size := (Array.getElem?_eq_some_iff.1 hb).1
 rw [heap_grow_old _ _ (by simpa using hg)]
 simp [putRow, mapBlock, Sort.ahead, Array.getElem?_modify, hb, onCells]
theorem grownBy_srt {w : World} {g n : Nat} {os : Array Obj} (d : Array Int) : w.grownBy (grow (putRow (Value.int .i64) (Sort.ahead w n) g 0 d) os) (some g) := by
 refine ⟨rfl, rfl, rfl, by simp, fun k hk hne => ?_⟩
 rw [heap_grow_old _ _ (by simpa using hk)]
 have : g ≠ k := fun e => hne (by rw [e])
 simp [putRow, mapBlock, Sort.ahead, Array.getElem?_modify, this]
theorem take_srt (cur : Array Value) (ts : List Int) (h : ts.length ≤ cur.size) : (putCells (Value.int .i64) 0 ts.toArray cur).toList.take ts.length = ts.map (Value.int .i64) := by
 apply List.ext_getElem?
 intro j
 by_cases hj : j < ts.length
 ·rw [List.getElem?_take_of_lt hj, Array.getElem?_toList]
  simp [putCells, hj, show j < cur.size by omega]
 ·rw [List.getElem?_take_eq_none (by omega), List.getElem?_eq_none (by simp; omega)]
theorem sort_any (w : World) (B : Nat) (v : Value) (xs : List Int) (h : Ow w B v xs) (hn : xs.length ≤ 1048576) :
  Calls Tryz.prog 57 #[v] w fun e w' => e = .returned (.tuple #[]) ∧ Ow w' B v (srt xs) ∧ w.grownBy w' v.ownBlock := by
 rcases h.2 with ⟨rfl, h3⟩ | ⟨g, cap, cur, rfl, hg, hh, h1, h2, h3, h4⟩
 ·obtain rfl : xs = [] := by simpa using h3
  refine (AnyM.slices_Sort_int_none sortLay none 0 w).mono ?_
  rintro e w' ⟨rfl, rfl⟩
  exact ⟨rfl, by simpa [srt] using Ow.nil w' B, ⟨rfl, rfl, rfl, Nat.le_refl _, fun _ _ _ => rfl⟩⟩
 ·refine (AnyM.slices_Sort_int sortLay g 0 cap xs w (holds_int hh (by simpa using h4)) (Array.getElem?_eq_some_iff.1 hh).1 (by omega)).mono ?_
  rintro e w' ⟨rfl, n, os, rfl⟩
  refine ⟨rfl, ?_, grownBy_srt _⟩
  have hl := srt_len xs
  refine ⟨by simp [hl], .inr ⟨g, cap, _, by rw [hl], hg, heap_srt _ hh, by omega, h2, by simpa [putCells] using h3, ?_⟩⟩
  rw [Nat.mul_one]
  exact take_srt cur (srt xs) (by omega)
theorem bnot_mem_t {q : List Int} {y : Int} (h : y ∈ q) : hasB q y = true := hasB_iff.2 h
theorem bnot_mem_f {q : List Int} {y : Int} (h : y ∉ q) : hasB q y = false := by
 cases e : hasB q y with
 | false => rfl
 | true => exact absurd (hasB_iff.1 e) h
theorem gen_rng {os : List Int} (hG : OkG os) {N : Nat} (hN : prodL os = N) : ∀ a x, 0 ≤ Ar os a x ∧ Ar os a x < N := fun a x => hN ▸ Ar_rng hG a x
set_option maxHeartbeats 4000000 in
theorem generated_any (w : World) (A : Option Addr) (n c : Nat) (os : List Int) (D : Int) (A' : Option Addr) (n' c' : Nat) (L : Option Addr) (l lc : Nat) (xs : List Int) (N : Nat)
  (h : Sl w w.heap.size A n c os) (hx : Sl w w.heap.size L l lc xs) (hl : l ≤ 1048576) (hG : OkG os) (hN : prodL os = N) (hI : ∀ x ∈ xs, 0 ≤ x ∧ x < prodL os) :
  Calls Tryz.prog 86 #[.agg #[.slice A n c, .int .i64 D, .slice A' n' c'], .slice L l lc] w (Mk w (genL (Ar os) xs N)) := by
 obtain rfl := hx.len
 have HR := hide (gen_rng hG hN)
 have hge := hG.ge
 have h16 := hG.p16
 have N0 : 0 < N := by omega
 have N16 : N ≤ 16 := by omega
 have HN := hide hN
 have HI := hide (show ∀ x ∈ xs, 0 ≤ x ∧ x < (N : Int) by rw [← hN]; exact hI)
 clear hI hN hge h16
 go_enter Tryz.func86, Tryz.ntmps86
 go_wp2_with fail
 obtain ⟨W, hW⟩ : ∃ W, w.alloc (.cells #[.slice A n c, .int .i64 D, .slice A' n' c'] 26) = W := ⟨_, rfl⟩
 have hbW : Below w.heap.size w W := by rw [← hW]; exact (by repeat (first | assumption | exact Below.refl _ _ | apply below_drewN | apply Below.drew | apply Below.alloc | apply Below.setCell | omega | (focus (simp; done)) | (focus (simp; omega))))
 have hszW : w.heap.size < W.heap.size := by rw [← hW]; simp
 have hsW := hide (show W.heap.size = w.heap.size + 1 by rw [← hW]; simp)
 have bM : Blk W w.heap.size 26 #[.slice A n c, .int .i64 D, .slice A' n' c'] := by rw [← hW]; exact Blk.new _ _ _
 have q0 : W.cell? ⟨w.heap.size, 0, none⟩ = some (.slice A n c) := by rw [← hW]; exact (Blk.new _ _ _).cell 0
 have q1 : W.cell? ⟨w.heap.size, 1, none⟩ = some (.int .i64 D) := by rw [← hW]; exact (Blk.new _ _ _).cell 1
 have q2 : W.cell? ⟨w.heap.size, 2, none⟩ = some (.slice A' n' c') := by rw [← hW]; exact (Blk.new _ _ _).cell 2
 rw [hW]
 clear hW
 have hs := (h.below hbW).more (Nat.le_of_lt hszW)
 have hxs := hx.below hbW
 have hsl : ∀ wd, Below W.heap.size W wd → Sl wd wd.heap.size A n c os := fun wd h => (hs.below h).more h.size
 have hB2 : Below W.heap.size W (W.alloc (.cells #[.int .i64 0] 2)) := (Below.refl _ _).alloc (Nat.le_refl _) _
 have hO2 : Ow (W.alloc (.cells #[.int .i64 0] 2)) W.heap.size (.slice (some ⟨w.heap.size + 1, 0, none⟩) 1 1) [0] := Ow.made' (xs := [0]) W #[.int .i64 0] (w.heap.size + 1) 1 hsW.out rfl (by rw [hsW.out]; omega) rfl (by unfold maxLen; omega)
 have HS := hide (Qs.start (Ar os) xs)
 have HI6 := hide (show ∀ (q : List Int) (i k : Nat), Qs (Ar os) xs q i k → ∀ y ∈ q, i64ok y from fun q i k hq y hy => by
  have := (hq.gen y hy).rng HR.out (by omega)
  exact ⟨by omega, by omega⟩)
 go_wp2_with fail
 go_loopw [5, 6] (fun o i wr => ∃ (k : Nat) (q : List Int) (vv : Value), k ≤ q.length ∧ i = .int .i64 k ∧ vv = o ∧ Qs (Ar os) xs q k 0 ∧ Ow wr W.heap.size vv q ∧ Below W.heap.size W wr) (fun _ i _ => N - (intOf i).toNat)
 case atStart => exact ⟨0, [0], _, by simp, rfl, rfl, HS.out, hO2, hB2⟩
 case round =>
  clear hO2 hB2 HS
  obtain ⟨k, q, vv, hk, rfl, rfl, hQ, hO, hBe⟩ := hrel
  have hqN := hQ.len HR.out N0
  have HQ := hide hQ
  clear hQ
  obtain ⟨vA, vc, rfl⟩ := hO.val
  by_cases hlt : k < q.length
  ·go_wp2_with fail
   go_loopw [5, 19] (fun o i wr => ∃ (j : Nat) (q : List Int) (vv : Value), j ≤ xs.length ∧ i = .int .i64 j ∧ vv = o ∧ k < q.length ∧ Qs (Ar os) xs q k j ∧ Ow wr W.heap.size vv q ∧ Below W.heap.size W wr) (fun _ i _ => xs.length - (intOf i).toNat)
   case atStart => exact ⟨0, q, _, by omega, rfl, rfl, hlt, HQ.out, hO, hBe⟩
   case round =>
    clear hO hBe HQ hlt hqN hk
    obtain ⟨j, q, vv, hj, rfl, rfl, hkq, hQ, hO, hBe⟩ := hrel
    have hqN := hQ.len HR.out N0
    have hq6 := hide (HI6.out _ _ _ hQ)
    have HQ := hide hQ
    clear hQ
    by_cases hlj : j < xs.length
    ·obtain ⟨b, off, rfl, hb, hc⟩ := hxs.at_ (by omega)
     have c1 := hc j hlj
     have hbG : b < W.heap.size := by omega
     clear hc
     obtain ⟨x0, x1⟩ := HI.out _ (gi_mem hlj)
     obtain ⟨x, ex⟩ : ∃ x, gi xs j = x := ⟨_, rfl⟩
     obtain ⟨a, ea⟩ : ∃ a, gi q k = a := ⟨_, rfl⟩
     have hMt := hide (fun hm => HQ.out.met (k := j) (i := k) hm)
     have hPu := hide (fun hm => HQ.out.push hkq hlj hm)
     have ha := (HQ.out.gen _ (gi_mem hkq)).rng HR.out (by omega)
     rw [ex, ea] at hMt hPu
     rw [ea] at ha
     rw [ex] at c1 x0 x1
     have hm1 := wr64 x ⟨by omega, by omega⟩
     rcases hO.form with ⟨_, e2⟩ | ⟨g, cap, rfl, hg, hgl, hcap⟩
     ·exact absurd hkq (by rw [e2]; simp)
     have cg := hO.cell rfl hkq
     rw [ea] at cg
     obtain ⟨sA, sc, es, hSl⟩ := hO.sl hq6.out
     cases es
     clear ex ea
     have hB0 := hBe
     have hz0 : w.heap.size < wr.heap.size := Nat.lt_of_lt_of_le hszW hB0.size
     have y0 := (hB0.cell (p := ⟨w.heap.size, 0, none⟩) hszW).trans q0
     have y1 := (hB0.cell (p := ⟨w.heap.size, 1, none⟩) hszW).trans q1
     have y2 := (hB0.cell (p := ⟨w.heap.size, 2, none⟩) hszW).trans q2
     have c2 := (hB0.cell (p := ⟨b, off + j, none⟩) hbG).trans c1
     obtain ⟨y, ey⟩ : ∃ y, Ar os a x = y := ⟨_, rfl⟩
     have hpc := fun W' a' => plus_any W' (.int .i64 D) (.slice A' n' c') A n c os a x a' hG (by omega) (by omega) x0 (by omega)
     rw [ey] at hpc hMt hPu
     clear c1
     go_wp2_with fail
     refine wp_region_be [0, 1, 2, 3, 4, 5, 6, 7] 7 wr.heap.size wr (by kernel_rfl) (by kernel_rfl) (by kernel_rfl) (fun _ _ _ _ _ h => h) (Below.refl _ _) (fun wd hBe => ?_)
     repeat (first | (apply ord_tk rfl (by rfl) (by rfl) (by rfl); (focus (intro wx hSw; have r0 := (hSw.cell (p := ⟨w.heap.size, 0, none⟩) hz0).trans y0; have r1 := (hSw.cell (p := ⟨w.heap.size, 1, none⟩) hz0).trans y1; have r2 := (hSw.cell (p := ⟨w.heap.size, 2, none⟩) hz0).trans y2; have r3 := (hSw.cell (p := ⟨g, k, none⟩) hgl).trans cg; go_simp; (try with_reducible rfl))); (try simp only [Act.put, List.setIfInBounds_toArray, List.set_cons_zero, List.set_cons_succ])) | (apply ord_skip rfl (by rfl) (by rfl) (fun _ => hBe); (try simp only [Act.put, List.setIfInBounds_toArray, List.set_cons_zero, List.set_cons_succ])))
     refine ord_do rfl (by rfl) (by rfl) (fun K hK => ?_)
     go_simp
     refine (hpc _ (hsl _ (hB0.trans (hBe.mono hB0.size)))).mono ?_
     rintro e wd' ⟨rfl, hwd⟩
     replace hBe := hBe.trans (hwd.mono hBe.size)
     clear hwd
     refine hK.out _ _ (fun _ => hBe) ?_
     (try simp only [Act.put, List.setIfInBounds_toArray, List.set_cons_zero, List.set_cons_succ])
     clear hK K
     repeat (first | (apply ord_tk rfl (by rfl) (by rfl) (by rfl); (focus (intro wx hSw; have r0 := hz0; go_simp; (try with_reducible rfl))); (try simp only [Act.put, List.setIfInBounds_toArray, List.set_cons_zero, List.set_cons_succ])) | (apply ord_skip rfl (by rfl) (by rfl) (fun _ => hBe); (try simp only [Act.put, List.setIfInBounds_toArray, List.set_cons_zero, List.set_cons_succ])))
     refine ord_do rfl (by rfl) (by rfl) (fun K hK => ?_)
     go_simp
     refine hK.out _ _ (fun h => absurd h (by omega)) ?_
     (try simp only [Act.put, List.setIfInBounds_toArray, List.set_cons_zero, List.set_cons_succ])
     clear hK K
     refine ord_nil ?_
     have hO := hO.below hBe
     have hSl := (hSl.below hBe).more hBe.size
     replace hBe := hB0.trans (hBe.mono hB0.size)
     clear hB0 y0 y1 y2 c2 cg hz0
     go_wp2_with fail
     refine (sContains_any _ _ _ _ _ q y hSl (by omega)).mono ?_
     rintro e w3 ⟨rfl, m3, rfl⟩
     have hO := hO.drewN m3
     have hBe := below_drewN hBe m3
     by_cases hm : y ∈ q
     ·have hT := bnot_mem_t hm
      have hQ' := hide (hMt.out hm)
      rw [hT]
      clear hm hT
      go_wp2_with fail
      go_roundw
      case rel => exact ⟨j + 1, q, _, by omega, by go_num, rfl, hkq, hQ'.out, hO, hBe⟩
      case measure => simp [intOf] <;> omega
     ·have hT := bnot_mem_f hm
      have hQ' := hide (hPu.out hm)
      rw [hT]
      clear hm hT
      go_wp2_with (at_builtin; refine list_push _ rfl _ _ rfl W.heap.size _ _ rfl (hO.alloc _) y _ _ rfl (Blk.new _ _ _) (by omega) (by have := hBe.size; simp at this ⊢; omega) (by simp) ?_; intro g' cap' w4 hP4)
      go_roundw
      case rel => exact ⟨j + 1, _, _, by omega, by go_num, rfl, by simp; omega, hQ'.out, hP4.own, (hBe.alloc hBe.size _).trans (hP4.below (hO.alloc _) (by have := hBe.size; simp at this ⊢; omega))⟩
      case measure => simp [intOf] <;> omega
    ·obtain rfl : j = xs.length := by omega
     have hR := hide HQ.out.row
     go_wp2_with fail
     go_roundw
     case rel => exact ⟨k + 1, q, _, by omega, by go_num, rfl, hR.out, hO, hBe⟩
     case measure => simp [intOf] <;> omega
  ·obtain rfl : k = q.length := by omega
   have hE := hide (HQ.out.sort (Nat.le_refl _) HR.out N0)
   go_wp2_with fail
   refine (sort_any _ W.heap.size _ q hO (by omega)).mono ?_
   rintro e w3 ⟨rfl, hO3, hg3⟩
   have hB3 : Below W.heap.size W w3 := hBe.grown hg3 hBe.size (fun b hb => (hO.lt b hb).1)
   rw [show srt q = genL (Ar os) xs N from hE.out] at hO3
   go_wp2_with fail
   go_ret
   exact ⟨_, rfl, hO3.less (Nat.le_of_lt hszW), hbW.trans (hB3.mono (Nat.le_of_lt hszW))⟩
def tzLay_ren : Go.Shelf.Ren := ⟨fun | 29 => 149 | n => n, fun | 22 => 48 | 3 => 3 | 4 => 4 | 25 => 96 | 54 => 134 | 0 => 0 | 5 => 5 | n => n, fun | 1 => 0 | n => n⟩
theorem tzLay : Go.Proofs.Lays7.n29 Tryz.prog tzLay_ren := {
  mixed := by kernel_rfl
  f29 := Tryz.func149.trans (congrArg some (by kernel_rfl))
  t0 := Tryz.underlying0
  a0 := Tryz.isAgg0
  z0 := Tryz.sizeOf0
  v0 := Tryz.zeroValue0
  i0 := by kernel_rfl
  t3 := Tryz.underlying3
  a3 := Tryz.isAgg3
  z3 := Tryz.sizeOf3
  v3 := Tryz.zeroValue3
  i3 := by kernel_rfl
  t4 := Tryz.underlying4
  a4 := Tryz.isAgg4
  z4 := Tryz.sizeOf4
  v4 := Tryz.zeroValue4
  i4 := by kernel_rfl
  t5 := Tryz.underlying5
  a5 := Tryz.isAgg5
  z5 := Tryz.sizeOf5
  v5 := Tryz.zeroValue5
  i5 := by kernel_rfl
  t22 := Tryz.underlying48
  a22 := Tryz.isAgg48
  z22 := Tryz.sizeOf48
  v22 := Tryz.zeroValue48
  i22 := by kernel_rfl
  t25 := Tryz.underlying96
  a25 := Tryz.isAgg96
  z25 := Tryz.sizeOf96
  v25 := Tryz.zeroValue96
  i25 := by kernel_rfl
  t54 := Tryz.underlying134
  a54 := Tryz.isAgg134
  z54 := Tryz.sizeOf134
  g1 := by kernel_rfl }
structure Tb (w : World) : Prop where
 lt : 0 < w.heap.size
 at_ : TabAt 0 Lib.deBruijn64tab w
theorem Tb.bel {w w' : World} (h : Tb w) (hb : Below w.heap.size w w') : Tb w' :=
 ⟨Nat.lt_of_lt_of_le h.lt hb.size, fun j hj => (hb.cell (p := ⟨0, j, none⟩) h.lt).trans (h.at_ j hj)⟩
theorem Tb.more {w w' : World} {B : Nat} (h : Tb w) (hb : Below B w w') (hB : w.heap.size ≤ B) : Tb w' := h.bel (hb.mono hB)
theorem tz_any (w : World) (r : Nat) (hr : r < 18446744073709551616) (hT : Tb w) : Calls Tryz.prog 149 #[.int .u64 r] w (Qt w (.int .i64 (Lib.ctz 64 r : Nat))) :=
 (Any7.bits_TrailingZeros64 tzLay r hr w (fun _ => hT.at_)).mono fun e w' h => ⟨h.1, 0, h.2⟩
def MkI (w : World) (xs : List Int) (e : Ending) (w' : World) : Prop := ∃ v, e = .returned v ∧ OwV w' w.heap.size 3 v (xs.map (Value.int .i64)) ∧ Below w.heap.size w w'
theorem intI_info : (Tryz.prog.info? 3).map (fun i => (i.zero, i.size, i.bytes)) = some (some (.int .i64 0), 1, 8) := by kernel_rfl
section
variable {t : TypeId} {w w' : World} {B B' : Nat} {v : Value} {us : List Value}
theorem OwV.val' (h : OwV w B t v us) : ∃ A c, v = .slice A us.length c := by
 rcases h.form with ⟨rfl, rfl⟩ | ⟨g, cap, rfl, _⟩
 ·exact ⟨none, 0, rfl⟩
 ·exact ⟨_, cap, rfl⟩
theorem OwV.less' (h : OwV w B t v us) (hB : B' ≤ B) : OwV w B' t v us := by
 obtain ⟨h1, h2⟩ := h
 refine ⟨h1, ?_⟩
 rcases h2 with h2 | ⟨g, cap, cur, hv, hg, h3⟩
 ·exact .inl h2
 ·exact .inr ⟨g, cap, cur, hv, by omega, h3⟩
theorem OwV.at' {A : Option Addr} {n c k : Nat} {u : Value} (h : OwV w B t (.slice A n c) us) (hu : us[k]? = some u) : ∃ g, A = some ⟨g, 0, none⟩ ∧ g < w.heap.size ∧ w.cell? ⟨g, k, none⟩ = some u := by
 rcases h.form with ⟨_, rfl⟩ | ⟨g, cap, e1, _, e3, _, e5⟩
 ·simp at hu
 ·injection e1 with e1
  exact ⟨g, e1, e3, e5 k u hu⟩
theorem OwV.far' (h : OwV w B t v us) {row : Option Nat} (hg : w.grownBy w' row) (hne : v.ownBlock = none ∨ v.ownBlock ≠ row) : OwV w' B t v us := World.ownsRow.kept h hg hne
theorem OwV.apart' (h : OwV w B t v us) {v' : Value} {xs : List Int} (k : Ow w B' v' xs) (ht : t ≠ 2) : v.ownBlock = none ∨ v.ownBlock ≠ v'.ownBlock := by
 obtain ⟨h1, h2⟩ := h
 rcases h2 with ⟨rfl, _⟩ | ⟨g, cap, cur, rfl, hg, hh, _⟩
 ·exact .inl rfl
 ·refine .inr fun e => k.blk_ne (g := g) (t := t) (cs := cur) hh ht ?_
  rw [← e]; rfl
end
set_option maxHeartbeats 1000000 in
theorem labelsIn_any (w : World) (N m : Nat) (hN : N ≤ 16) (hm : m < 2 ^ N) (hT : Tb w) : Calls Tryz.prog 114 #[.int .i64 m] w (MkI w (mems N m)) := by
 have h16 : ∀ r, r < 2 ^ N → r < 65536 := fun r hr => Nat.lt_of_lt_of_le hr (Nat.le_trans (Nat.pow_le_pow_right (by omega) hN) (by decide))
 have H16 := hide h16
 have HLo := hide (fun r (h0 : r ≠ 0) (hr : r < 2 ^ N) => mems_low h0 hr (show N ≤ 64 by omega))
 have HLe := hide (mems_len N)
 have HM := hide hm
 clear h16 hm
 go_enter Tryz.func114, Tryz.ntmps114
 go_wp2_with fail
 have hO2 : OwV (w.alloc (.cells #[] 3)) w.heap.size 3 (.slice (some ⟨w.heap.size, 0, none⟩) 0 0) [] := OwV.made w _ _ rfl (Nat.le_refl _)
 have hB2 : Below w.heap.size w (w.alloc (.cells #[] 3)) := (Below.refl _ _).alloc (Nat.le_refl _) _
 go_loopw [0, 3] (fun s o wr => ∃ (r : Nat) (vv : Value) (ds : List Int), s = .int .i64 r ∧ vv = o ∧ Hid (r < 2 ^ N ∧ mems N m = ds ++ mems N r) ∧ ds.length ≤ 16 ∧ OwV wr w.heap.size 3 vv (ds.map (Value.int .i64)) ∧ Below w.heap.size w wr) (fun s _ _ => (intOf s).toNat)
 case atStart => exact ⟨m, _, [], rfl, rfl, hide ⟨HM.out, rfl⟩, by simp, hO2, hB2⟩
 case round =>
  clear hO2 hB2
  obtain ⟨r, vv, ds, rfl, rfl, hR, hds, hO, hBe⟩ := hrel
  by_cases h0 : r = 0
  ·subst h0
   have hE := hide (show mems N m = ds by rw [hR.out.2, mems_zero, List.append_nil])
   go_wp2_with fail
   go_ret
   exact ⟨_, rfl, by rw [hE.out]; exact hO, hBe⟩
  ·obtain ⟨k1, k2, k3⟩ := HLo.out r h0 hR.out.1
   have r16 := H16.out r hR.out.1
   have hv1 : IntKind.u64.wrap (r : Int) = (r : Int) := by rw [IntKind.wrap_u64]; omega
   have hv2 : IntKind.i64.wrap ((r : Int) - 1) = ((r - 1 : Nat) : Int) := by rw [wr64 _ ⟨by omega, by omega⟩]; omega
   have ha : bits .and .i64 (r : Int) ((r - 1 : Nat) : Int) = ((r &&& (r - 1) : Nat) : Int) := and64 (by omega) (by omega)
   have hle : r &&& (r - 1) ≤ r - 1 := Nat.and_le_right
   have hT2 := hT.bel hBe
   have hlen := HLe.out m
   obtain ⟨q, hq⟩ : ∃ q, r &&& (r - 1) = q := ⟨_, rfl⟩
   obtain ⟨x, hx⟩ : ∃ x, Lib.ctz 64 r = x := ⟨_, rfl⟩
   rw [hq] at k2 k3 ha hle
   rw [hx] at k1 k3
   have hd1 : (ds ++ [(x : Int)]).length ≤ 16 := by
    rw [hR.out.2, k3] at hlen
    simp at hlen ⊢
    omega
   have hR' := hide (show q < 2 ^ N ∧ mems N m = (ds ++ [(x : Int)]) ++ mems N q from ⟨k2, by rw [hR.out.2, k3]; simp⟩)
   have hdm : ds.map (Value.int .i64) ++ [.int .i64 (x : Int)] = (ds ++ [(x : Int)]).map (Value.int .i64) := by simp
   have HD := hide hdm
   have tz := tz_any wr r (by omega) hT2
   rw [hx] at tz
   have hri : ¬ (r : Int) = 0 := by omega
   clear k2 k3 hq hx hlen hdm hR
   go_wp2_with fail
   refine tz.mono ?_
   rintro e w3 ⟨rfl, m3, rfl⟩
   go_wp2_with (at_builtin; refine list_pushV 100 3 _ 8 Tryz.underlying100 intI_info (by omega) rfl _ rfl _ _ rfl w.heap.size _ _ rfl ((hO.drewN m3).alloc _) _ rfl _ _ rfl (Blk.new _ _ _) (by simp; omega) (by have := hBe.size; simp; omega) (by simp) ?_; intro g' cap' w4 hP4)
   go_roundw
   case rel => exact ⟨q, _, ds ++ [(x : Int)], by go_num, rfl, hR', hd1, by have h9 := hP4.own; rw [List.length_map, HD.out] at h9; exact h9, ((below_drewN hBe m3).alloc hBe.size _).trans (hP4.below ((hO.drewN m3).alloc _) (by have := hBe.size; simp; omega))⟩
   case measure => simp [intOf] <;> omega
set_option maxHeartbeats 1000000 in
theorem elementsOf_any (w : World) (N m : Nat) (hN : N ≤ 16) (hm : m < 2 ^ N) (hT : Tb w) : Calls Tryz.prog 65 #[.int .i64 m] w (Mk w (mems N m)) := by
 have HLe := mems_len N m
 obtain ⟨xs, hxs⟩ : ∃ xs, mems N m = xs := ⟨_, rfl⟩
 have hL := labelsIn_any (w.alloc (.cells #[] 2)) N m hN hm (hT.bel ((Below.refl _ _).alloc (Nat.le_refl _) _))
 rw [hxs] at HLe hL ⊢
 clear hxs
 go_enter Tryz.func65, Tryz.ntmps65
 have hO2 : Ow (w.alloc (.cells #[] 2)) w.heap.size (.slice (some ⟨w.heap.size, 0, none⟩) 0 0) [] := Ow.made' (xs := []) w #[] w.heap.size 0 rfl rfl (Nat.le_refl _) rfl (by unfold maxLen; omega)
 have hB2 : Below w.heap.size w (w.alloc (.cells #[] 2)) := (Below.refl _ _).alloc (Nat.le_refl _) _
 go_wp2_with fail
 refine hL.mono ?_
 rintro e w3 ⟨v, rfl, hV, hb3⟩
 clear hL
 replace hO2 := hO2.below hb3
 replace hB2 := hB2.trans (hb3.mono hB2.size)
 clear hb3
 obtain ⟨vA, vc, hv⟩ := hV.val'
 rw [List.length_map] at hv
 subst hv
 go_wp2_with fail
 go_loopw [3, 10] (fun o i wr => ∃ (k : Nat) (vv : Value), k ≤ xs.length ∧ i = .int .i64 k ∧ vv = o ∧ Ow wr w.heap.size vv (xs.take k) ∧ OwV wr (w.heap.size + 1) 3 (.slice vA xs.length vc) (xs.map (Value.int .i64)) ∧ Below w.heap.size w wr) (fun _ i _ => xs.length - (intOf i).toNat)
 case atStart => exact ⟨0, _, by omega, rfl, rfl, by simpa using hO2, hV.less' (by simp), hB2⟩
 case round =>
  clear hO2 hB2 hV
  obtain ⟨k, vv, hk, rfl, rfl, hO, hV, hBe⟩ := hrel
  by_cases hlt : k < xs.length
  ·obtain ⟨g, rfl, hg, c1⟩ := hV.at' (k := k) (u := .int .i64 (gi xs k)) (by rw [List.getElem?_map, gi_get hlt]; rfl)
   have HS := hide (take_gi hlt)
   obtain ⟨x, ex⟩ : ∃ x, gi xs k = x := ⟨_, rfl⟩
   rw [ex] at c1 HS
   clear ex
   have hlk : (xs.take k).length = k := by simp; omega
   have hJ := hO.alloc (.cells #[.int .i64 x] 2)
   go_wp2_with (at_builtin; refine list_push _ rfl _ _ rfl w.heap.size _ _ rfl hJ x _ _ rfl (Blk.new _ _ _) (by omega) (by have := hBe.size; simp; omega) (by simp) ?_; intro g' cap' w4 hP4)
   go_roundw
   case rel => exact ⟨k + 1, _, by omega, by go_num, rfl, by have h9 := hP4.own; rw [hlk] at h9; rw [HS.out]; exact h9, (hV.alloc _).far' hP4.2.1 ((hV.alloc _).apart' hJ (by decide)), (hBe.alloc hBe.size _).trans (hP4.below hJ (by have := hBe.size; simp; omega))⟩
   case measure => simp [intOf] <;> omega
  ·obtain rfl : k = xs.length := by omega
   rw [List.take_length] at hO
   go_wp2_with fail
   go_ret
   exact ⟨_, rfl, hO, hBe⟩
set_option maxHeartbeats 1000000 in
theorem maskOf_any (w : World) (B : Nat) (A : Option Addr) (n c : Nat) (xs : List Int) (h : Sl w B A n c xs) (hx : ∀ x ∈ xs, 0 ≤ x ∧ x < (16 : Nat)) (hn : n ≤ 1048576) :
  Calls Tryz.prog 112 #[.slice A n c] w (Qt w (.int .i64 (msk xs : Nat))) := by
 obtain rfl := h.len
 have HX := hide hx
 have HK := hide (fun k => msk_lt (n := 16) (xs := xs.take k) fun x hm => hx x (List.mem_of_mem_take hm))
 clear hx
 go_enter Tryz.func112, Tryz.ntmps112
 go_wp2_with fail
 go_loop [3, 8] (fun s i => ∃ k : Nat, k ≤ xs.length ∧ i = .int .i64 k ∧ s = .int .i64 (msk (xs.take k) : Nat)) (fun _ i => xs.length - (intOf i).toNat)
 case atStart => exact ⟨0, by omega, rfl, rfl⟩
 case round =>
  obtain ⟨k, hk, rfl, rfl⟩ := hrel
  by_cases hlt : k < xs.length
  ·obtain ⟨b, off, rfl, hb, hc⟩ := h.at_ (by omega)
   have c1 := hc k hlt
   clear hc
   obtain ⟨r0, r1⟩ := HX.out _ (gi_mem hlt)
   have hm := HK.out k
   have hS := msk_snoc hlt
   obtain ⟨x, hxe⟩ := Int.eq_ofNat_of_zero_le r0
   rw [hxe] at c1 r0 r1 hS
   clear hxe
   obtain ⟨M, hM⟩ : ∃ M, msk (xs.take k) = M := ⟨_, rfl⟩
   rw [hM] at hm hS
   rw [Int.toNat_natCast] at hS
   have p1 := pow16k (x := x) (by omega)
   obtain ⟨P, hP⟩ : ∃ P : Nat, 2 ^ x = P := ⟨_, rfl⟩
   rw [hP] at p1 hS
   have e2 : ((2 : Int) ^ x) = (P : Int) := by rw [← hP]; exact (Int.natCast_pow 2 x).symm
   have hs : wrap64 ((2 : Int) ^ x) = (P : Int) := by rw [e2]; exact wrap64_ok _ ⟨by omega, by omega⟩
   have ho : bits .or .i64 (M : Int) (P : Int) = ((M ||| P : Nat) : Int) := or64 (Nat.lt_of_lt_of_le hm (by decide)) (Nat.lt_of_lt_of_le p1 (by decide))
   have HS := hide hS
   clear e2 hP hS
   rw [hM]
   clear hM
   go_wp2_with fail
   go_round
   case rel => exact ⟨k + 1, by omega, by go_num, by rw [HS.out]⟩
   case measure => simp [intOf] <;> omega
  ·obtain rfl : k = xs.length := by omega
   rw [List.take_length]
   go_wp2
   go_ret
   exact Qt.mk' 0 rfl rfl
set_option maxHeartbeats 1000000 in
theorem l11Members_any (w : World) (N m : Nat) (hN : N ≤ 16) (hm : m < 65536) :
  Calls Tryz.prog 68 #[.int .i64 N, .int .i64 m] w (Mk w (mems N m)) := by
 go_enter Tryz.func68, Tryz.ntmps68
 go_wp2_with fail
 have hO2 : Ow (w.alloc (.cells #[] 2)) w.heap.size (.slice (some ⟨w.heap.size, 0, none⟩) 0 0) [] := Ow.made' (xs := []) w #[] w.heap.size 0 rfl rfl (Nat.le_refl _) rfl (by unfold maxLen; omega)
 have hB2 : Below w.heap.size w (w.alloc (.cells #[] 2)) := (Below.refl _ _).alloc (Nat.le_refl _) _
 go_loopw [5, 6] (fun o i wr => ∃ (k : Nat) (vv : Value), k ≤ N ∧ i = .int .i64 k ∧ vv = o ∧ Ow wr w.heap.size vv (mems k m) ∧ Below w.heap.size w wr) (fun _ i _ => N - (intOf i).toNat)
 case atStart => exact ⟨0, _, by omega, rfl, rfl, hO2, hB2⟩
 case round =>
  clear hO2 hB2
  obtain ⟨k, vv, hk, rfl, rfl, hO, hBe⟩ := hrel
  by_cases hlt : k < N
  ·have HS := hide (mems_snoc k m)
   have hl := mems_len k m
   obtain ⟨q, hq⟩ : ∃ q, mems k m = q := ⟨_, rfl⟩
   rw [hq] at hO HS hl
   clear hq
   have hc1 : IntKind.u64.wrap (k : Int) = (k : Int) := by rw [IntKind.wrap_u64]; omega
   obtain ⟨V, hV⟩ : ∃ V : Nat, m / 2 ^ k = V := ⟨_, rfl⟩
   have hV2 : V ≤ m := by rw [← hV]; exact Nat.div_le_self _ _
   have hs : (m : Int) / (2 : Int) ^ k = (V : Int) := by
    rw [← hV, show (2 : Int) ^ k = ((2 ^ k : Nat) : Int) from (Int.natCast_pow 2 k).symm]; rfl
   have hb := shr_bit m k
   rw [hV] at hb
   have ha : bits .and .i64 (V : Int) 1 = ((V &&& 1 : Nat) : Int) := and64 (a := V) (b := 1) (by omega) (by omega)
   rw [hb] at ha
   clear hb hV
   cases ht : m.testBit k with
   | true =>
    rw [ht] at ha HS
    simp only [if_true] at ha HS
    go_wp2_with (at_builtin; refine list_push _ rfl _ _ rfl w.heap.size _ _ rfl (hO.alloc _) k _ _ rfl (Blk.new _ _ _) (by omega) (by have := hBe.size; simp at this ⊢; omega) (by simp) ?_; intro g' cap' w4 hP4)
    go_roundw
    case rel => exact ⟨k + 1, _, by omega, by go_num, rfl, by rw [HS.out]; exact hP4.own, (hBe.alloc hBe.size _).trans (hP4.below (hO.alloc _) (by have := hBe.size; simp at this ⊢; omega))⟩
    case measure => simp [intOf] <;> omega
   | false =>
    rw [ht] at ha HS
    simp only [if_false, Bool.false_eq_true, List.append_nil] at ha HS
    go_wp2_with fail
    go_roundw
    case rel => exact ⟨k + 1, _, by omega, by go_num, rfl, by rw [HS.out]; exact hO, hBe⟩
    case measure => simp [intOf] <;> omega
  ·obtain rfl : k = N := by omega
   go_wp2_with fail
   go_ret
   exact ⟨_, rfl, hO, hBe⟩
theorem del_none {p : Int → Bool} {xs : List Int} (h : ∀ j, j < xs.length → p (gi xs j) = false) : xs.filter (fun x => !p x) = xs := by
 rw [List.filter_eq_self]
 intro x hx
 obtain ⟨j, hj, rfl⟩ := List.getElem_of_mem hx
 rw [gi_ext hj, h j hj]; rfl
theorem del_first {p : Int → Bool} {xs : List Int} {i : Nat} (hi : i < xs.length) (hp : p (gi xs i) = true) (h : ∀ j, j < i → p (gi xs j) = false) :
  ((xs.take i).filter fun x => !p x) = xs.take i ∧ ((xs.take (i + 1)).filter fun x => !p x) = xs.take i := by
 have h1 : ((xs.take i).filter fun x => !p x) = xs.take i := del_none fun j hj => by
  simp at hj
  rw [gi_take (by omega)]
  exact h j (by omega)
 refine ⟨h1, ?_⟩
 rw [take_gi hi, List.filter_append, h1]
 simp [hp]
theorem del_keep {p : Int → Bool} {xs ys : List Int} {i j : Nat} (hij : i < j) (hj : j < xs.length) (hl : ys.length = xs.length) (h1 : ys.take i = (xs.take j).filter fun x => !p x) (h2 : ys.drop j = xs.drop j) :
  (p (gi xs j) = true → ys.take i = ((xs.take (j + 1)).filter fun x => !p x) ∧ ys.drop (j + 1) = xs.drop (j + 1)) ∧
  (p (gi xs j) = false → (ys.set i (gi xs j)).take (i + 1) = ((xs.take (j + 1)).filter fun x => !p x) ∧ (ys.set i (gi xs j)).drop (j + 1) = xs.drop (j + 1)) := by
 have h3 : ys.drop (j + 1) = xs.drop (j + 1) := by
  have := congrArg (List.drop 1) h2
  rwa [List.drop_drop, List.drop_drop] at this
 refine ⟨fun hp => ⟨?_, h3⟩, fun hp => ⟨?_, ?_⟩⟩
 ·rw [take_gi hj, List.filter_append, h1]; simp [hp]
 ·rw [take_gi hj, List.filter_append, ← h1]
  have : (ys.set i (gi xs j)).take (i + 1) = ys.take i ++ [gi xs j] := by
   rw [take_gi (by simp; omega)]
   congr 1
   ·rw [List.take_set_of_le (Nat.le_refl _)]
   ·simp [gi, show i < ys.length by omega]
  rw [this]; simp [hp]
 ·rw [List.drop_set_of_lt (by omega)]; exact h3
theorem run_clear (w : World) (ty : TypeId) (g i n c : Nat) (cur : Array Value) (t : TypeId) (hg : w.heap[g]? = some (.cells cur t (0, 0))) (hn : 0 < n) (hl : i + n ≤ cur.size) :
  (Builtin.clear_ #[24] ty #[.slice (some ⟨g, i, none⟩) n c]).run Tryz.prog w = .ok (.tuple #[]) (w.setRow g (cur.toList.take i ++ List.replicate n (Value.int .i64 0) ++ cur.toList.drop (i + n)).toArray) := by
 have hz : (zeroValue 2).run Tryz.prog w = .ok (.int .i64 0) w := by kernel_rfl
 have hst := run_storeCells_at Tryz.prog g i t (List.replicate n (Value.int .i64 0)) 0 cur w hg (by simpa using hl) (fun v hv => by rw [List.eq_of_mem_replicate hv]; rfl)
 have h0 : n ≠ 0 := by omega
 have e1 : (Builtin.zeroCells (Value.int .i64 0).cells n).toList = List.replicate n (Value.int .i64 0) := by (unfold Builtin.zeroCells; apply List.ext_getElem?; intro j; simp [Value.cells, List.getElem?_replicate]; split <;> simp_all [Nat.mod_one])
 obtain ⟨k, rfl⟩ : ∃ k, n = k + 1 := ⟨n - 1, by omega⟩
 simp [Builtin.clear_, run_underlying Tryz.underlying24, hz, e1]
 rw [hst]
 simp
theorem Ow.cleared {w : World} {B g n cap i : Nat} {ys : List Int} (h : Ow w B (.slice (some ⟨g, 0, none⟩) n cap) ys) (hn : n = ys.length) (hi : i < n) (hB : B ≤ w.heap.size) (hg : B ≤ g) :
  ∃ w5, (∀ ty c, (Builtin.clear_ #[24] ty #[.slice (some ⟨g, i, none⟩) (n - i) c]).run Tryz.prog w = .ok (.tuple #[]) w5) ∧ Ow w5 B (.slice (some ⟨g, 0, none⟩) i cap) (ys.take i) ∧ Below B w w5 := by
 obtain ⟨h1, h2⟩ := h
 rcases h2 with ⟨h2, _⟩ | ⟨g', cap', cur, hv, hg', hh, hnc, hm, hs, hx⟩
 ·cases h2
 ·injection hv with e1 e2 e3
  injection e1 with e1
  injection e1 with e1
  subst e1 e3
  subst hn
  refine ⟨_, fun ty c => run_clear w ty g i (ys.length - i) c cur _ hh (by omega) (by omega), ?_, below_setRow (Below.refl _ _) hg _⟩
  have hcl : cur.toList.length = cap := by simp; omega
  have hw := setRow_heap w g cur (cur.toList.take i ++ List.replicate (ys.length - i) (Value.int .i64 0) ++ cur.toList.drop (i + (ys.length - i))).toArray _ _ hh
  have hl : (ys.take i).length = i := by simp; omega
  unfold Ow
  rw [hl]
  refine ⟨by simp; omega, .inr ⟨g, cap, _, rfl, hg', hw, by omega, hm, ?_, ?_⟩⟩
  ·simp; omega
  ·simp only [Nat.mul_one] at hx ⊢
   rw [List.append_assoc, List.take_append_of_le_length (by simp; omega), List.take_take, Nat.min_self]
   have := congrArg (List.take i) hx
   rw [List.take_take, Nat.min_eq_left (by omega), ← List.map_take] at this
   exact this
theorem lagM_first (W w : World) (A : Option Addr) (n c : Nat) (xs : List Int) (p : Int → Bool) (M : Nat) (B : Nat) (hBW : B ≤ W.heap.size) (hx : Sl W W.heap.size A n c xs) (hn : n ≤ 1048576) (hw : Below W.heap.size W w)
  (hcall : ∀ k, k < xs.length → ∀ wd, Below B W wd → Calls Tryz.prog 111 #[.int .i64 (gi xs k), .pointer (some ⟨M, 0, none⟩)] wd (Re wd (.bool (p (gi xs k))))) :
  Calls Tryz.prog 134 #[.slice A n c, .func (.func 111) #[] #[.pointer (some ⟨M, 0, none⟩)]] w (fun e w' => ∃ r : Int, e = .returned (.int .i64 r) ∧ ((r = -1 ∧ ∀ j, j < xs.length → p (gi xs j) = false) ∨ ∃ k : Nat, k < xs.length ∧ r = k ∧ p (gi xs k) = true ∧ ∀ j, j < k → p (gi xs j) = false) ∧ Below W.heap.size W w') := by
 obtain rfl := hx.len
 have HC := hide hcall
 clear hcall
 go_enter Tryz.func134, Tryz.ntmps134
 go_wp2_with fail
 go_loopw [8] (fun i wr => ∃ k : Nat, k ≤ xs.length ∧ i = .int .i64 k ∧ (∀ j, j < k → p (gi xs j) = false) ∧ Below W.heap.size W wr) (fun i _ => xs.length - (intOf i).toNat)
 case atStart => exact ⟨0, by omega, rfl, fun j hj => absurd hj (by omega), hw⟩
 case round =>
  clear hw
  obtain ⟨k, hk, rfl, hpre, hBe⟩ := hrel
  have hP := hide hpre
  clear hpre
  by_cases hlt : k < xs.length
  ·obtain ⟨b, off, rfl, hb, hc⟩ := hx.at_ (by omega)
   have c1 := (hBe.cell (p := ⟨b, off + k, none⟩) hb).trans (hc k hlt)
   clear hc
   have hcl := HC.out k hlt
   cases hv : p (gi xs k) with
   | true =>
    have hT := hide hv
    rw [hv] at hcl
    have HL := hide hcl
    clear hv hcl
    go_wp2_with fail
    clear c1
    refine (HL.out _ (hBe.mono hBW)).mono ?_
    rintro e w3 ⟨rfl, hb3⟩
    replace hBe := hBe.trans (hb3.mono hBe.size)
    clear hb3
    go_wp2_with fail
    go_ret
    exact ⟨k, rfl, .inr ⟨k, hlt, rfl, hT.out, hP.out⟩, hBe⟩
   | false =>
    rw [hv] at hcl
    have HL := hide hcl
    have hv' := hide hv
    clear hv hcl
    go_wp2_with fail
    clear c1
    refine (HL.out _ (hBe.mono hBW)).mono ?_
    rintro e w3 ⟨rfl, hb3⟩
    replace hBe := hBe.trans (hb3.mono hBe.size)
    clear hb3
    go_wp2_with fail
    go_roundw
    case rel => exact ⟨k + 1, by omega, by go_num, fun j hj => by rcases Nat.lt_succ_iff_lt_or_eq.1 hj with h | rfl; exact hP.out j h; exact hv'.out, hBe⟩
    case measure => simp [intOf] <;> omega
  ·obtain rfl : k = xs.length := by omega
   go_wp2
   go_ret
   exact ⟨-1, rfl, .inl ⟨rfl, hP.out⟩, hBe⟩
theorem lagM_delete (w : World) (v : Value) (xs : List Int) (p : Int → Bool) (M : Nat) (B : Nat) (hO : Ow w B v xs) (hr : ∀ x ∈ xs, i64ok x) (hB : B ≤ w.heap.size) (hn : xs.length ≤ 1048576)
  (hcall : ∀ k, k < xs.length → ∀ wd, Below B w wd → Calls Tryz.prog 111 #[.int .i64 (gi xs k), .pointer (some ⟨M, 0, none⟩)] wd (Re wd (.bool (p (gi xs k))))) :
  Calls Tryz.prog 110 #[v, .func (.func 111) #[] #[.pointer (some ⟨M, 0, none⟩)]] w (fun e w' => ∃ v', e = .returned v' ∧ Ow w' B v' (xs.filter fun x => !p x) ∧ Below B w w') := by
 obtain ⟨A, c, rfl, hS⟩ := hO.sl hr
 obtain ⟨n, hnn⟩ : ∃ n, n = xs.length := ⟨_, rfl⟩
 have HN := hide hnn
 rw [← hnn] at hO hS hn ⊢
 have HI := hide (lagM_first w w A n c xs p M B hB hS hn (Below.refl _ _) hcall)
 have HC := hide hcall
 clear hcall hr hnn
 go_enter Tryz.func110, Tryz.ntmps110
 go_wp2_with fail
 refine HI.out.mono ?_
 rintro e w1 ⟨r, rfl, hr, hb1⟩
 replace hO := hO.below hb1
 have hBe := hb1.mono hB
 have hB1 : B ≤ w1.heap.size := Nat.le_trans hB hb1.size
 clear hb1 hS HI
 rw [← HN.out] at hr
 rcases hr with ⟨rfl, hno⟩ | ⟨i, hi, rfl, hpi, hpre⟩
 ·have hE := hide (show xs.filter (fun x => !p x) = xs from del_none (by rw [← HN.out]; exact hno))
  clear hno
  go_wp2_with fail
  go_ret
  exact ⟨_, rfl, by rw [hE.out]; exact hO, hBe⟩
 ·rcases hO.form with ⟨_, e2⟩ | ⟨g, cap, e1, hg, hgl, hcap⟩
  ·have := HN.out; rw [e2] at this; simp at this; omega
  rw [← HN.out] at hcap
  injection e1 with e1 e2 e3
  clear e2
  subst e1 e3
  have hi1 : ((i : Int) == -1) = false := by rw [beq_eq_false_iff_ne]; omega
  have hi2 : (i : Int) ≤ 1048576 := by omega
  have HT := hide (show ((xs.take i).filter fun x => !p x) = xs.take i ∧ ((xs.take (i + 1)).filter fun x => !p x) = xs.take i from del_first (by rw [← HN.out]; exact hi) hpi hpre)
  clear hpi hpre
  go_wp2_with fail
  go_loopw [5, 6] (fun a b wr => ∃ (i j : Nat) (ys : List Int), i < j ∧ j ≤ n ∧ a = .int .i64 i ∧ b = .int .i64 j ∧ ys.length = n ∧ Hid (ys.take i = (xs.take j).filter (fun x => !p x) ∧ ys.drop j = xs.drop j) ∧ Ow wr B (.slice (some ⟨g, 0, none⟩) n c) ys ∧ Below B w wr) (fun _ b _ => n - (intOf b).toNat)
  case atStart => exact ⟨i, i + 1, xs, by omega, by omega, rfl, by go_num, HN.out.symm, hide ⟨HT.out.2.symm, rfl⟩, hO, hBe⟩
  case round =>
   clear hO hBe HT hi1 hi2 hi hgl
   obtain ⟨i, j, ys, hij, hj, rfl, rfl, hyl, hY, hO, hBe⟩ := hrel
   have hOl := (hO.lt g rfl).2
   by_cases hlt : j < n
   ·have hlx : j < xs.length := by rw [← HN.out]; exact hlt
    have c1 := hO.cell hyl.symm hlt
    have hgj : gi ys j = gi xs j := by
     have h1 := hY.out.2
     have h2 : (ys.drop j)[0]? = (xs.drop j)[0]? := by rw [h1]
     rw [List.getElem?_drop, List.getElem?_drop, Nat.add_zero, gi_get (by omega), gi_get hlx] at h2
     exact Option.some.inj h2
    rw [hgj] at c1
    have hcl := HC.out j hlx
    have HK := hide (del_keep hij hlx (hyl.trans HN.out) hY.out.1 hY.out.2 (p := p))
    clear hlx
    obtain ⟨x, ex⟩ : ∃ x, gi xs j = x := ⟨_, rfl⟩
    rw [ex] at c1 hcl HK
    have hE := hide ex
    clear ex hgj
    have HL := hide hcl
    clear hcl
    cases hv : p x with
    | true =>
     have hv' := hide hv
     have HK' := hide (HK.out.1 hv)
     rw [hv] at HL
     clear hv HK
     go_wp2_with fail
     refine (HL.out _ hBe).mono ?_
     rintro e w3 ⟨rfl, hb3⟩
     replace hO := hO.below hb3
     replace hBe := hBe.trans (hb3.mono (Nat.le_trans hB hBe.size))
     clear hb3 c1
     go_wp2_with fail
     go_roundw
     case rel => exact ⟨i, j + 1, ys, by omega, by omega, by go_num, by go_num, hyl, HK', hO, hBe⟩
     case measure => simp [intOf] <;> omega
    | false =>
     have HK' := hide (HK.out.2 hv)
     rw [hv] at HL
     clear hv HK
     go_wp2_with fail
     refine (HL.out _ hBe).mono ?_
     rintro e w3 ⟨rfl, hb3⟩
     replace hO := hO.below hb3
     replace hBe := hBe.trans (hb3.mono (Nat.le_trans hB hBe.size))
     clear hb3 c1
     have hin : i < n := by omega
     have c2 := hO.cell hyl.symm hin
     have f2 := hO.frozen hyl.symm i
     have hO2 := hO.store hyl.symm i x
     go_wp2_with fail
     go_roundw
     case rel => exact ⟨i + 1, j + 1, ys.set i x, by omega, by omega, by go_num, by go_num, by simpa using hyl, HK', hO2, hBe.setCell hg _⟩
     case measure => simp [intOf] <;> omega
   ·obtain rfl : j = n := by omega
    have hF := hide (show ys.take i = xs.filter (fun x => !p x) by have := hY.out.1; rw [HN.out] at this; rwa [List.take_length] at this)
    obtain ⟨w5, hcl, hO5, hB5⟩ := hO.cleared hyl.symm hij (Nat.le_trans hB hBe.size) hg
    clear HC hY
    have hi0 : ¬ c - i = 0 := by omega
    have hi0' : ¬ (c : Int) - (i : Int) = 0 := by omega
    have hji : ¬ j - i = 0 := by omega
    go_wp2_with fail
    go_ret
    exact ⟨_, rfl, by rw [← hF.out]; exact hO5, hBe.trans hB5⟩
theorem isoM_first (W w : World) (A : Option Addr) (n c : Nat) (xs : List Int) (p : Int → Bool) (M : Nat) (B : Nat) (hBW : B ≤ W.heap.size) (hx : Sl W W.heap.size A n c xs) (hn : n ≤ 1048576) (hw : Below W.heap.size W w)
  (hcall : ∀ k, k < xs.length → ∀ wd, Below B W wd → Calls Tryz.prog 113 #[.int .i64 (gi xs k), .pointer (some ⟨M, 0, none⟩)] wd (Re wd (.bool (p (gi xs k))))) :
  Calls Tryz.prog 134 #[.slice A n c, .func (.func 113) #[] #[.pointer (some ⟨M, 0, none⟩)]] w (fun e w' => ∃ r : Int, e = .returned (.int .i64 r) ∧ ((r = -1 ∧ ∀ j, j < xs.length → p (gi xs j) = false) ∨ ∃ k : Nat, k < xs.length ∧ r = k ∧ p (gi xs k) = true ∧ ∀ j, j < k → p (gi xs j) = false) ∧ Below W.heap.size W w') := by
 obtain rfl := hx.len
 have HC := hide hcall
 clear hcall
 go_enter Tryz.func134, Tryz.ntmps134
 go_wp2_with fail
 go_loopw [8] (fun i wr => ∃ k : Nat, k ≤ xs.length ∧ i = .int .i64 k ∧ (∀ j, j < k → p (gi xs j) = false) ∧ Below W.heap.size W wr) (fun i _ => xs.length - (intOf i).toNat)
 case atStart => exact ⟨0, by omega, rfl, fun j hj => absurd hj (by omega), hw⟩
 case round =>
  clear hw
  obtain ⟨k, hk, rfl, hpre, hBe⟩ := hrel
  have hP := hide hpre
  clear hpre
  by_cases hlt : k < xs.length
  ·obtain ⟨b, off, rfl, hb, hc⟩ := hx.at_ (by omega)
   have c1 := (hBe.cell (p := ⟨b, off + k, none⟩) hb).trans (hc k hlt)
   clear hc
   have hcl := HC.out k hlt
   cases hv : p (gi xs k) with
   | true =>
    have hT := hide hv
    rw [hv] at hcl
    have HL := hide hcl
    clear hv hcl
    go_wp2_with fail
    clear c1
    refine (HL.out _ (hBe.mono hBW)).mono ?_
    rintro e w3 ⟨rfl, hb3⟩
    replace hBe := hBe.trans (hb3.mono hBe.size)
    clear hb3
    go_wp2_with fail
    go_ret
    exact ⟨k, rfl, .inr ⟨k, hlt, rfl, hT.out, hP.out⟩, hBe⟩
   | false =>
    rw [hv] at hcl
    have HL := hide hcl
    have hv' := hide hv
    clear hv hcl
    go_wp2_with fail
    clear c1
    refine (HL.out _ (hBe.mono hBW)).mono ?_
    rintro e w3 ⟨rfl, hb3⟩
    replace hBe := hBe.trans (hb3.mono hBe.size)
    clear hb3
    go_wp2_with fail
    go_roundw
    case rel => exact ⟨k + 1, by omega, by go_num, fun j hj => by rcases Nat.lt_succ_iff_lt_or_eq.1 hj with h | rfl; exact hP.out j h; exact hv'.out, hBe⟩
    case measure => simp [intOf] <;> omega
  ·obtain rfl : k = xs.length := by omega
   go_wp2
   go_ret
   exact ⟨-1, rfl, .inl ⟨rfl, hP.out⟩, hBe⟩
theorem isoM_delete (w : World) (v : Value) (xs : List Int) (p : Int → Bool) (M : Nat) (B : Nat) (hO : Ow w B v xs) (hr : ∀ x ∈ xs, i64ok x) (hB : B ≤ w.heap.size) (hn : xs.length ≤ 1048576)
  (hcall : ∀ k, k < xs.length → ∀ wd, Below B w wd → Calls Tryz.prog 113 #[.int .i64 (gi xs k), .pointer (some ⟨M, 0, none⟩)] wd (Re wd (.bool (p (gi xs k))))) :
  Calls Tryz.prog 110 #[v, .func (.func 113) #[] #[.pointer (some ⟨M, 0, none⟩)]] w (fun e w' => ∃ v', e = .returned v' ∧ Ow w' B v' (xs.filter fun x => !p x) ∧ Below B w w') := by
 obtain ⟨A, c, rfl, hS⟩ := hO.sl hr
 obtain ⟨n, hnn⟩ : ∃ n, n = xs.length := ⟨_, rfl⟩
 have HN := hide hnn
 rw [← hnn] at hO hS hn ⊢
 have HI := hide (isoM_first w w A n c xs p M B hB hS hn (Below.refl _ _) hcall)
 have HC := hide hcall
 clear hcall hr hnn
 go_enter Tryz.func110, Tryz.ntmps110
 go_wp2_with fail
 refine HI.out.mono ?_
 rintro e w1 ⟨r, rfl, hr, hb1⟩
 replace hO := hO.below hb1
 have hBe := hb1.mono hB
 have hB1 : B ≤ w1.heap.size := Nat.le_trans hB hb1.size
 clear hb1 hS HI
 rw [← HN.out] at hr
 rcases hr with ⟨rfl, hno⟩ | ⟨i, hi, rfl, hpi, hpre⟩
 ·have hE := hide (show xs.filter (fun x => !p x) = xs from del_none (by rw [← HN.out]; exact hno))
  clear hno
  go_wp2_with fail
  go_ret
  exact ⟨_, rfl, by rw [hE.out]; exact hO, hBe⟩
 ·rcases hO.form with ⟨_, e2⟩ | ⟨g, cap, e1, hg, hgl, hcap⟩
  ·have := HN.out; rw [e2] at this; simp at this; omega
  rw [← HN.out] at hcap
  injection e1 with e1 e2 e3
  clear e2
  subst e1 e3
  have hi1 : ((i : Int) == -1) = false := by rw [beq_eq_false_iff_ne]; omega
  have hi2 : (i : Int) ≤ 1048576 := by omega
  have HT := hide (show ((xs.take i).filter fun x => !p x) = xs.take i ∧ ((xs.take (i + 1)).filter fun x => !p x) = xs.take i from del_first (by rw [← HN.out]; exact hi) hpi hpre)
  clear hpi hpre
  go_wp2_with fail
  go_loopw [5, 6] (fun a b wr => ∃ (i j : Nat) (ys : List Int), i < j ∧ j ≤ n ∧ a = .int .i64 i ∧ b = .int .i64 j ∧ ys.length = n ∧ Hid (ys.take i = (xs.take j).filter (fun x => !p x) ∧ ys.drop j = xs.drop j) ∧ Ow wr B (.slice (some ⟨g, 0, none⟩) n c) ys ∧ Below B w wr) (fun _ b _ => n - (intOf b).toNat)
  case atStart => exact ⟨i, i + 1, xs, by omega, by omega, rfl, by go_num, HN.out.symm, hide ⟨HT.out.2.symm, rfl⟩, hO, hBe⟩
  case round =>
   clear hO hBe HT hi1 hi2 hi hgl
   obtain ⟨i, j, ys, hij, hj, rfl, rfl, hyl, hY, hO, hBe⟩ := hrel
   have hOl := (hO.lt g rfl).2
   by_cases hlt : j < n
   ·have hlx : j < xs.length := by rw [← HN.out]; exact hlt
    have c1 := hO.cell hyl.symm hlt
    have hgj : gi ys j = gi xs j := by
     have h1 := hY.out.2
     have h2 : (ys.drop j)[0]? = (xs.drop j)[0]? := by rw [h1]
     rw [List.getElem?_drop, List.getElem?_drop, Nat.add_zero, gi_get (by omega), gi_get hlx] at h2
     exact Option.some.inj h2
    rw [hgj] at c1
    have hcl := HC.out j hlx
    have HK := hide (del_keep hij hlx (hyl.trans HN.out) hY.out.1 hY.out.2 (p := p))
    clear hlx
    obtain ⟨x, ex⟩ : ∃ x, gi xs j = x := ⟨_, rfl⟩
    rw [ex] at c1 hcl HK
    have hE := hide ex
    clear ex hgj
    have HL := hide hcl
    clear hcl
    cases hv : p x with
    | true =>
     have hv' := hide hv
     have HK' := hide (HK.out.1 hv)
     rw [hv] at HL
     clear hv HK
     go_wp2_with fail
     refine (HL.out _ hBe).mono ?_
     rintro e w3 ⟨rfl, hb3⟩
     replace hO := hO.below hb3
     replace hBe := hBe.trans (hb3.mono (Nat.le_trans hB hBe.size))
     clear hb3 c1
     go_wp2_with fail
     go_roundw
     case rel => exact ⟨i, j + 1, ys, by omega, by omega, by go_num, by go_num, hyl, HK', hO, hBe⟩
     case measure => simp [intOf] <;> omega
    | false =>
     have HK' := hide (HK.out.2 hv)
     rw [hv] at HL
     clear hv HK
     go_wp2_with fail
     refine (HL.out _ hBe).mono ?_
     rintro e w3 ⟨rfl, hb3⟩
     replace hO := hO.below hb3
     replace hBe := hBe.trans (hb3.mono (Nat.le_trans hB hBe.size))
     clear hb3 c1
     have hin : i < n := by omega
     have c2 := hO.cell hyl.symm hin
     have f2 := hO.frozen hyl.symm i
     have hO2 := hO.store hyl.symm i x
     go_wp2_with fail
     go_roundw
     case rel => exact ⟨i + 1, j + 1, ys.set i x, by omega, by omega, by go_num, by go_num, by simpa using hyl, HK', hO2, hBe.setCell hg _⟩
     case measure => simp [intOf] <;> omega
   ·obtain rfl : j = n := by omega
    have hF := hide (show ys.take i = xs.filter (fun x => !p x) by have := hY.out.1; rw [HN.out] at this; rwa [List.take_length] at this)
    obtain ⟨w5, hcl, hO5, hB5⟩ := hO.cleared hyl.symm hij (Nat.le_trans hB hBe.size) hg
    clear HC hY
    have hi0 : ¬ c - i = 0 := by omega
    have hi0' : ¬ (c : Int) - (i : Int) = 0 := by omega
    have hji : ¬ j - i = 0 := by omega
    go_wp2_with fail
    go_ret
    exact ⟨_, rfl, by rw [← hF.out]; exact hO5, hBe.trans hB5⟩
noncomputable def sgK (os : List Int) (N : Nat) : List Int := (allK os N).map fun (m : Nat) => (m : Int)
def fI (F : List Nat) : List Int := F.map fun (m : Nat) => (m : Int)
theorem fI_len (F : List Nat) : (fI F).length = F.length := by simp [fI]
theorem fI_gi {F : List Nat} {k : Nat} (h : k < F.length) : ∃ f, F[k]? = some f ∧ gi (fI F) k = (f : Int) := by
 refine ⟨F[k], List.getElem?_eq_getElem h, ?_⟩
 unfold gi fI
 rw [List.getD_eq_getElem?_getD, List.getElem?_map, List.getElem?_eq_getElem h]; rfl
theorem fI_mem {F : List Nat} {m : Nat} : (m : Int) ∈ fI F ↔ m ∈ F := by
 unfold fI
 simp only [List.mem_map]
 exact ⟨fun ⟨x, hx, e⟩ => by have : x = m := by omega
                             rwa [← this], fun h => ⟨m, h, rfl⟩⟩
theorem fI_app (F : List Nat) (m : Nat) : fI (F ++ [m]) = fI F ++ [(m : Int)] := by simp [fI]
theorem wp_pushM {o : Oper} {a : Act} {K : Act → World → Prop} {Q : Exit → Act → World → Prop} (w : World) (s x : Operand)
  (ho : o.op = .call { callee := .builtin .append, args := #[s, x], argTypes := #[24, 24] })
  (B : Nat) (v : Value) (xs : List Int) (hs : a.eval s = v) (hown : Ow w B v xs) (y : Int) (H T N : Nat) (hx : a.eval x = .slice (some ⟨H, 0, none⟩) 1 1) (hb : Blk w H T #[.int .i64 y])
  (hn : xs.length ≤ 1048576) (hB : B ≤ w.heap.size) (hH : w.heap.size = N + 1)
  (h : ∀ g cap w', Pushed w B v xs y N g cap w' → K (a.put o.dst (.slice (some ⟨g, 0, none⟩) (xs.length + 1) cap)) w') : o.wp Tryz.prog a w K Q := by
 obtain ⟨i0, hi0, hz0, hz1, hz2⟩ := info_parts int_info
 refine wp_append_lies w s x _ ho B 2 i0 _ 1 8 Tryz.underlying24 hi0 hz0 hz1 hz2 rfl (by omega) v xs.length _ hs hown ⟨H, 0, none⟩ 1 1 [.int .i64 y] hx rfl
  (World.news_of_block (cs := #[.int .i64 y]) hb) (by simp [Value.oneCell']) (by omega) (by unfold maxLen; omega) (by omega) hB (N + 1) hH ?_
 intro g cap w' h2 h3 h4 h5
 refine h g cap w' ⟨?_, h3, h4, h5⟩
 unfold Ow
 simpa using h2
set_option maxHeartbeats 4000000 in
theorem subgroupMasks_any (w : World) (A : Option Addr) (n c : Nat) (os : List Int) (D : Int) (A' : Option Addr) (c' : Nat) (N : Nat)
  (h : Sl w w.heap.size A n c os) (hG : OkG os) (hN : prodL os = N) (hT : Tb w) :
  Calls Tryz.prog 87 #[.agg #[.slice A n c, .int .i64 D, .slice A' N c']] w (Mk w (sgK os N)) := by
 have hge := hG.ge
 have h16 := hG.p16
 have N0 : 0 < N := by omega
 have N16 : N ≤ 16 := by omega
 have HN := hide hN
 have HS0 := hide (Fd.start (N := N) hG hN.symm)
 have HP := hide (show (2 : Nat) ^ N ≤ 65536 from Nat.le_trans (Nat.pow_le_pow_right (by omega) N16) (by decide))
 have HNX := hide (fun m x (hx : x < N) => nxt_isK hG hN.symm (m := m) hx)
 have HML := hide (fun m x (hx : x < N) => ml_rng hG hN.symm (m := m) hx)
 have HML2 := hide (fun m => mems_len N m)
 have HGR := hide (show ∀ l, (∀ y ∈ genL (Ar os) l N, 0 ≤ y ∧ y < N) from fun l y hy => by have := mem_genL.1 hy; exact ⟨this.2.1, this.2.2⟩)
 obtain ⟨P, hP⟩ : ∃ P : Nat, 2 ^ N = P := ⟨_, rfl⟩
 have hP6 : P ≤ 65536 := by rw [← hP]; exact HP.out
 have HPE := hide hP
 clear hN hge h16 hP
 go_enter Tryz.func87, Tryz.ntmps87
 go_wp2_with fail
 obtain ⟨W, hW⟩ : ∃ W, w.alloc (.cells #[.slice A n c, .int .i64 D, .slice A' N c'] 26) = W := ⟨_, rfl⟩
 have hbW : Below w.heap.size w W := by rw [← hW]; exact (by repeat (first | assumption | exact Below.refl _ _ | apply below_drewN | apply Below.drew | apply Below.alloc | apply Below.setCell | omega | (focus (simp; done)) | (focus (simp; omega))))
 have hszW : w.heap.size < W.heap.size := by rw [← hW]; simp
 have hsW := hide (show W.heap.size = w.heap.size + 1 by rw [← hW]; simp)
 have bM : Blk W w.heap.size 26 #[.slice A n c, .int .i64 D, .slice A' N c'] := by rw [← hW]; exact Blk.new _ _ _
 have q0 : W.cell? ⟨w.heap.size, 0, none⟩ = some (.slice A n c) := by rw [← hW]; exact (Blk.new _ _ _).cell 0
 have q1 : W.cell? ⟨w.heap.size, 1, none⟩ = some (.int .i64 D) := by rw [← hW]; exact (Blk.new _ _ _).cell 1
 have q2 : W.cell? ⟨w.heap.size, 2, none⟩ = some (.slice A' N c') := by rw [← hW]; exact (Blk.new _ _ _).cell 2
 rw [hW]
 clear hW
 have hsl : ∀ wd, Below W.heap.size W wd → Sl wd wd.heap.size A n c os := fun wd h9 => ((h.below hbW).more (Nat.le_of_lt hszW)).below h9 |>.more h9.size
 have hTW : ∀ wd, Below W.heap.size W wd → Tb wd := fun wd h9 => (hT.bel hbW).bel h9
 have hB2 : Below W.heap.size W (W.alloc (.cells #[.int .i64 1] 2)) := (Below.refl _ _).alloc (Nat.le_refl _) _
 have hO2 : Ow (W.alloc (.cells #[.int .i64 1] 2)) W.heap.size (.slice (some ⟨w.heap.size + 1, 0, none⟩) 1 1) [1] := Ow.made' (xs := [1]) W #[.int .i64 1] (w.heap.size + 1) 1 hsW.out rfl (by rw [hsW.out]; omega) rfl (by unfold maxLen; omega)
 go_wp2_with fail
 go_loopw [3, 4] (fun o i wr => ∃ (k : Nat) (F : List Nat) (vv : Value), k ≤ F.length ∧ i = .int .i64 k ∧ vv = o ∧ Hid (Fd os N F k 0) ∧ F.length ≤ P ∧ Ow wr W.heap.size vv (fI F) ∧ Below W.heap.size W wr) (fun _ i _ => P - (intOf i).toNat)
 case atStart => exact ⟨0, [1], _, by simp, rfl, rfl, HS0, by have := (HS0.out).len; rw [HPE.out] at this; exact this, hO2, hB2⟩
 case round =>
  clear hO2 hB2 HS0
  obtain ⟨k, F, vv, hk, rfl, rfl, hF, hFl, hO, hBe⟩ := hrel
  have hfl := fI_len F
  obtain ⟨vA, vc, rfl⟩ := hO.val
  rw [hfl] at hO ⊢
  clear hfl
  by_cases hlt : k < F.length
  ·have r0 := (hBe.cell (p := ⟨w.heap.size, 0, none⟩) hszW).trans q0
   have r1 := (hBe.cell (p := ⟨w.heap.size, 1, none⟩) hszW).trans q1
   have r2 := (hBe.cell (p := ⟨w.heap.size, 2, none⟩) hszW).trans q2
   go_wp2_with fail
   clear r0 r1 r2
   refine (size_any _ _ _ _ _ _).mono ?_
   rintro e w2 ⟨rfl, hb2⟩
   replace hO := hO.below hb2
   replace hBe := hBe.trans (hb2.mono hBe.size)
   clear hb2
   go_wp2_with fail
   go_loopw [3, 16] (fun o i wr => ∃ (j : Nat) (F : List Nat) (vv : Value), j ≤ N ∧ i = .int .i64 j ∧ vv = o ∧ k < F.length ∧ Hid (Fd os N F k j) ∧ F.length ≤ P ∧ Ow wr W.heap.size vv (fI F) ∧ Below W.heap.size W wr) (fun _ i _ => N - (intOf i).toNat)
   case atStart => exact ⟨0, F, _, by omega, rfl, rfl, hlt, hF, hFl, hO, hBe⟩
   case round =>
    clear hO hBe hF hFl hk hlt
    obtain ⟨j, F, vv, hj, rfl, rfl, hkF, hF, hFl, hO, hBe⟩ := hrel
    have hfl := fI_len F
    by_cases hlj : j < N
    ·obtain ⟨f, hf, hgf⟩ := fI_gi hkF
     have hfK := (hF.out.isK f (List.mem_of_getElem? hf)).1
     have hPu := hide (fun hm => hF.out.push hG HN.out.symm hf hlj hm)
     have hMt := hide (fun hm => hF.out.met hf hm)
     rcases hO.form with ⟨_, e2⟩ | ⟨g, cap, rfl, hg, hgl, hcap⟩
     ·rw [e2] at hfl; simp at hfl; omega
     have HFL := hide hfl
     rw [hfl] at hO hcap ⊢
     have cg := hO.cell hfl.symm hkF
     rw [hgf] at cg
     have hB0 := hBe
     have hz0 : w.heap.size < wr.heap.size := Nat.lt_of_lt_of_le hszW hB0.size
     have y0 := (hB0.cell (p := ⟨w.heap.size, 0, none⟩) hszW).trans q0
     have y1 := (hB0.cell (p := ⟨w.heap.size, 1, none⟩) hszW).trans q1
     have y2 := (hB0.cell (p := ⟨w.heap.size, 2, none⟩) hszW).trans q2
     have hel := fun W' h' => elementsOf_any W' N f N16 hfK h'
     have hml := HML2.out f
     have hrl := HML.out f j hlj
     have hge := fun W' A n c A' n' c' L l lc h1 h2 h3 => generated_any W' A n c os D A' n' c' L l lc (mems N f ++ [(j : Int)]) N h1 h2 h3 hG HN.out (by rw [HN.out]; exact hrl)
     have hmk := fun W' B A n c h1 h2 => maskOf_any W' B A n c (genL (Ar os) (mems N f ++ [(j : Int)]) N) h1 (fun x hx => by have := HGR.out _ x hx; omega) h2
     have hgl16 := (mems_len 1 1)
     have hnx := (HNX.out f j hlj).1
     have HR6 := hide (show ∀ x ∈ mems N f ++ [(j : Int)], i64ok x from fun x hx => by have := hrl x hx; exact ⟨by omega, by omega⟩)
     have HG6 := hide (show ∀ x ∈ genL (Ar os) (mems N f ++ [(j : Int)]) N, i64ok x from fun x hx => by have := HGR.out _ x hx; exact ⟨by omega, by omega⟩)
     clear hfl hf hgf hrl
     go_upto_region 8 with fail
     go_cut [6] (fun s6 wx => s6 = .int .i64 (nxt os N f j : Nat) ∧ Below wr.heap.size wr wx)
     case first =>
      have hgl := hgl
      have hlenG : (genL (Ar os) (mems N f ++ [(j : Int)]) N).length ≤ 16 := Nat.le_trans (genL_len _ _ _) N16
      refine wp_region_bt (.one 0 (.one 1 (.one 2 (.one 3 (.one 4 (.one 6 (.two 5 (.one 7 (.one 8 (.one 9 (.one 10 (.one 11 .nil))))) 7 (.one 5 (.one 8 (.one 9 (.one 10 (.one 11 .nil)))))))))))) 11 wr.heap.size wr (by kernel_rfl) (by kernel_rfl) (by kernel_rfl) (fun _ _ _ _ _ h => h) (Below.refl _ _) (fun wd hBe => ?_)
      repeat (first | (apply ot_tk rfl (by rfl) (by rfl) (by rfl); (focus (intro wx hSw; have r0 := (hSw.cell (p := ⟨w.heap.size, 0, none⟩) hz0).trans y0; have r1 := (hSw.cell (p := ⟨w.heap.size, 1, none⟩) hz0).trans y1; have r2 := (hSw.cell (p := ⟨w.heap.size, 2, none⟩) hz0).trans y2; have r3 := (hSw.cell (p := ⟨g, k, none⟩) hgl).trans cg; go_simp; (try with_reducible rfl))); (try simp only [Act.put, List.setIfInBounds_toArray, List.set_cons_zero, List.set_cons_succ])) | (apply ot_skip rfl (by rfl) (by rfl) (fun _ => hBe); (try simp only [Act.put, List.setIfInBounds_toArray, List.set_cons_zero, List.set_cons_succ])))
      refine ot_two ?_ ?_
      ·skip
       refine ot_do rfl (by rfl) (by rfl) (fun K hK => ?_)
       go_simp
       refine (hel _ (hTW _ (hB0.trans (hBe.mono hB0.size)))).mono ?_
       rintro e w3 ⟨v, rfl, hV, hwd⟩
       have hzz := hBe.size
       have hz3 := hwd.size
       replace hBe := hBe.trans (hwd.mono hBe.size)
       refine hK.out _ _ (fun _ => hBe) ?_
       (try simp only [Act.put, List.setIfInBounds_toArray, List.set_cons_zero, List.set_cons_succ])
       clear hK K
       repeat (first | (apply ot_tk rfl (by rfl) (by rfl) (by rfl); (focus (intro wx hSw; have r0 := (hSw.cell (p := ⟨w.heap.size, 0, none⟩) hz0).trans y0; have r1 := (hSw.cell (p := ⟨w.heap.size, 1, none⟩) hz0).trans y1; have r2 := (hSw.cell (p := ⟨w.heap.size, 2, none⟩) hz0).trans y2; have r3 := (hSw.cell (p := ⟨g, k, none⟩) hgl).trans cg; go_simp; (try with_reducible rfl))); (try simp only [Act.put, List.setIfInBounds_toArray, List.set_cons_zero, List.set_cons_succ])) | (apply ot_skip rfl (by rfl) (by rfl) (fun _ => hBe); (try simp only [Act.put, List.setIfInBounds_toArray, List.set_cons_zero, List.set_cons_succ])))
       refine ot_do rfl (by rfl) (by rfl) (fun K hK => ?_)
       go_simp
       replace hBe := hBe.alloc hBe.size (.cells #[.int .i64 (j : Int)] 2)
       refine hK.out _ _ (fun _ => hBe) ?_
       (try simp only [Act.put, List.setIfInBounds_toArray, List.set_cons_zero, List.set_cons_succ])
       clear hK K
       repeat (first | (apply ot_tk rfl (by rfl) (by rfl) (by rfl); (focus (intro wx hSw; have r0 := (hSw.cell (p := ⟨w.heap.size, 0, none⟩) hz0).trans y0; have r1 := (hSw.cell (p := ⟨w.heap.size, 1, none⟩) hz0).trans y1; have r2 := (hSw.cell (p := ⟨w.heap.size, 2, none⟩) hz0).trans y2; have r3 := (hSw.cell (p := ⟨g, k, none⟩) hgl).trans cg; go_simp; (try with_reducible rfl))); (try simp only [Act.put, List.setIfInBounds_toArray, List.set_cons_zero, List.set_cons_succ])) | (apply ot_skip rfl (by rfl) (by rfl) (fun _ => hBe); (try simp only [Act.put, List.setIfInBounds_toArray, List.set_cons_zero, List.set_cons_succ])))
       refine ot_do rfl (by rfl) (by rfl) (fun K hK => ?_)
       have hJ := hV.alloc (.cells #[.int .i64 (j : Int)] 2)
       refine wp_pushM _ _ _ (by rfl) _ v (mems N f) (by rfl) hJ _ w3.heap.size _ w3.heap.size (by rfl) (Blk.new _ _ _) (by omega) (by simp; omega) (by simp) ?_
       intro g2 cap2 w5 hP
       have hBe := hBe.trans ((hP.below hJ (by first | omega | (focus (simp; done)) | (focus (simp; omega)))).mono (by first | omega | (focus (simp; done)) | (focus (simp; omega))))
       refine hK.out _ _ (fun _ => hBe) ?_
       (try simp only [Act.put, List.setIfInBounds_toArray, List.set_cons_zero, List.set_cons_succ])
       clear hK K
       repeat (first | (apply ot_tk rfl (by rfl) (by rfl) (by rfl); (focus (intro wx hSw; have r0 := (hSw.cell (p := ⟨w.heap.size, 0, none⟩) hz0).trans y0; have r1 := (hSw.cell (p := ⟨w.heap.size, 1, none⟩) hz0).trans y1; have r2 := (hSw.cell (p := ⟨w.heap.size, 2, none⟩) hz0).trans y2; have r3 := (hSw.cell (p := ⟨g, k, none⟩) hgl).trans cg; go_simp; (try with_reducible rfl))); (try simp only [Act.put, List.setIfInBounds_toArray, List.set_cons_zero, List.set_cons_succ])) | (apply ot_skip rfl (by rfl) (by rfl) (fun _ => hBe); (try simp only [Act.put, List.setIfInBounds_toArray, List.set_cons_zero, List.set_cons_succ])))
       refine ot_do rfl (by rfl) (by rfl) (fun K hK => ?_)
       go_simp
       have hLs := hP.own.here (by simp) HR6.out
       refine (hge _ _ _ _ _ _ _ _ _ _ (hsl _ (hB0.trans (hBe.mono hB0.size))) hLs (by omega)).mono ?_
       rintro e w6 ⟨v6, rfl, hV6, hb6⟩
       replace hBe := hBe.trans (hb6.mono hBe.size)
       refine hK.out _ _ (fun _ => hBe) ?_
       (try simp only [Act.put, List.setIfInBounds_toArray, List.set_cons_zero, List.set_cons_succ])
       clear hK K
       obtain ⟨sA, sc, rfl, hS6⟩ := hV6.sl HG6.out
       repeat (first | (apply ot_tk rfl (by rfl) (by rfl) (by rfl); (focus (intro wx hSw; have r0 := (hSw.cell (p := ⟨w.heap.size, 0, none⟩) hz0).trans y0; have r1 := (hSw.cell (p := ⟨w.heap.size, 1, none⟩) hz0).trans y1; have r2 := (hSw.cell (p := ⟨w.heap.size, 2, none⟩) hz0).trans y2; have r3 := (hSw.cell (p := ⟨g, k, none⟩) hgl).trans cg; go_simp; (try with_reducible rfl))); (try simp only [Act.put, List.setIfInBounds_toArray, List.set_cons_zero, List.set_cons_succ])) | (apply ot_skip rfl (by rfl) (by rfl) (fun _ => hBe); (try simp only [Act.put, List.setIfInBounds_toArray, List.set_cons_zero, List.set_cons_succ])))
       refine ot_do rfl (by rfl) (by rfl) (fun K hK => ?_)
       go_simp
       refine (hmk _ _ _ _ _ hS6 (by omega)).mono ?_
       rintro e w7 ⟨rfl, m7, hw7⟩
       have hBe7 : Below wr.heap.size wr w7 := by rw [hw7]; exact below_drewN hBe m7
       clear hw7
       refine hK.out _ _ (fun _ => hBe7) ?_
       (try simp only [Act.put, List.setIfInBounds_toArray, List.set_cons_zero, List.set_cons_succ])
       clear hK K
       repeat (first | (apply ot_tk rfl (by rfl) (by rfl) (by rfl); (focus (intro wx hSw; have r0 := (hSw.cell (p := ⟨w.heap.size, 0, none⟩) hz0).trans y0; have r1 := (hSw.cell (p := ⟨w.heap.size, 1, none⟩) hz0).trans y1; have r2 := (hSw.cell (p := ⟨w.heap.size, 2, none⟩) hz0).trans y2; have r3 := (hSw.cell (p := ⟨g, k, none⟩) hgl).trans cg; go_simp; (try with_reducible rfl))); (try simp only [Act.put, List.setIfInBounds_toArray, List.set_cons_zero, List.set_cons_succ])) | (apply ot_skip rfl (by rfl) (by rfl) (fun _ => hBe); (try simp only [Act.put, List.setIfInBounds_toArray, List.set_cons_zero, List.set_cons_succ])))
       refine ot_do rfl (by rfl) (by rfl) (fun K hK => ?_)
       go_simp
       refine hK.out _ _ (fun h => absurd h (by omega)) ?_
       (try simp only [Act.put, List.setIfInBounds_toArray, List.set_cons_zero, List.set_cons_succ])
       clear hK K
       refine ot_nil ?_
       go_wp2_with fail
       go_meet
       exact ⟨rfl, hBe7⟩
      ·skip
       refine ot_do rfl (by rfl) (by rfl) (fun K hK => ?_)
       go_simp
       have bJ := Blk.new wd 2 #[.int .i64 (j : Int)]
       have hzz := hBe.size
       replace hBe := hBe.alloc hBe.size (.cells #[.int .i64 (j : Int)] 2)
       refine hK.out _ _ (fun _ => hBe) ?_
       (try simp only [Act.put, List.setIfInBounds_toArray, List.set_cons_zero, List.set_cons_succ])
       clear hK K
       repeat (first | (apply ot_tk rfl (by rfl) (by rfl) (by rfl); (focus (intro wx hSw; have r0 := (hSw.cell (p := ⟨w.heap.size, 0, none⟩) hz0).trans y0; have r1 := (hSw.cell (p := ⟨w.heap.size, 1, none⟩) hz0).trans y1; have r2 := (hSw.cell (p := ⟨w.heap.size, 2, none⟩) hz0).trans y2; have r3 := (hSw.cell (p := ⟨g, k, none⟩) hgl).trans cg; go_simp; (try with_reducible rfl))); (try simp only [Act.put, List.setIfInBounds_toArray, List.set_cons_zero, List.set_cons_succ])) | (apply ot_skip rfl (by rfl) (by rfl) (fun _ => hBe); (try simp only [Act.put, List.setIfInBounds_toArray, List.set_cons_zero, List.set_cons_succ])))
       refine ot_do rfl (by rfl) (by rfl) (fun K hK => ?_)
       go_simp
       refine (hel _ (hTW _ (hB0.trans (hBe.mono hB0.size)))).mono ?_
       rintro e w3 ⟨v, rfl, hV, hwd⟩
       replace bJ := bJ.all hwd
       have hz3 := hwd.size
       simp at hz3
       replace hBe := hBe.trans (hwd.mono hBe.size)
       refine hK.out _ _ (fun _ => hBe) ?_
       (try simp only [Act.put, List.setIfInBounds_toArray, List.set_cons_zero, List.set_cons_succ])
       clear hK K
       repeat (first | (apply ot_tk rfl (by rfl) (by rfl) (by rfl); (focus (intro wx hSw; have r0 := (hSw.cell (p := ⟨w.heap.size, 0, none⟩) hz0).trans y0; have r1 := (hSw.cell (p := ⟨w.heap.size, 1, none⟩) hz0).trans y1; have r2 := (hSw.cell (p := ⟨w.heap.size, 2, none⟩) hz0).trans y2; have r3 := (hSw.cell (p := ⟨g, k, none⟩) hgl).trans cg; go_simp; (try with_reducible rfl))); (try simp only [Act.put, List.setIfInBounds_toArray, List.set_cons_zero, List.set_cons_succ])) | (apply ot_skip rfl (by rfl) (by rfl) (fun _ => hBe); (try simp only [Act.put, List.setIfInBounds_toArray, List.set_cons_zero, List.set_cons_succ])))
       refine ot_do rfl (by rfl) (by rfl) (fun K hK => ?_)
       have hJ := hV
       obtain ⟨N3, hN3⟩ : ∃ N3, w3.heap.size = N3 + 1 := ⟨w3.heap.size - 1, by omega⟩
       refine wp_pushM _ _ _ (by rfl) _ v (mems N f) (by rfl) hJ _ wd.heap.size _ N3 (by rfl) bJ (by omega) (by simp; omega) hN3 ?_
       intro g2 cap2 w5 hP
       have hBe := hBe.trans ((hP.below hJ (by first | omega | (focus (simp; done)) | (focus (simp; omega)))).mono (by first | omega | (focus (simp; done)) | (focus (simp; omega))))
       refine hK.out _ _ (fun _ => hBe) ?_
       (try simp only [Act.put, List.setIfInBounds_toArray, List.set_cons_zero, List.set_cons_succ])
       clear hK K
       repeat (first | (apply ot_tk rfl (by rfl) (by rfl) (by rfl); (focus (intro wx hSw; have r0 := (hSw.cell (p := ⟨w.heap.size, 0, none⟩) hz0).trans y0; have r1 := (hSw.cell (p := ⟨w.heap.size, 1, none⟩) hz0).trans y1; have r2 := (hSw.cell (p := ⟨w.heap.size, 2, none⟩) hz0).trans y2; have r3 := (hSw.cell (p := ⟨g, k, none⟩) hgl).trans cg; go_simp; (try with_reducible rfl))); (try simp only [Act.put, List.setIfInBounds_toArray, List.set_cons_zero, List.set_cons_succ])) | (apply ot_skip rfl (by rfl) (by rfl) (fun _ => hBe); (try simp only [Act.put, List.setIfInBounds_toArray, List.set_cons_zero, List.set_cons_succ])))
       refine ot_do rfl (by rfl) (by rfl) (fun K hK => ?_)
       go_simp
       have hLs := hP.own.here (by simp) HR6.out
       refine (hge _ _ _ _ _ _ _ _ _ _ (hsl _ (hB0.trans (hBe.mono hB0.size))) hLs (by omega)).mono ?_
       rintro e w6 ⟨v6, rfl, hV6, hb6⟩
       replace hBe := hBe.trans (hb6.mono hBe.size)
       refine hK.out _ _ (fun _ => hBe) ?_
       (try simp only [Act.put, List.setIfInBounds_toArray, List.set_cons_zero, List.set_cons_succ])
       clear hK K
       obtain ⟨sA, sc, rfl, hS6⟩ := hV6.sl HG6.out
       repeat (first | (apply ot_tk rfl (by rfl) (by rfl) (by rfl); (focus (intro wx hSw; have r0 := (hSw.cell (p := ⟨w.heap.size, 0, none⟩) hz0).trans y0; have r1 := (hSw.cell (p := ⟨w.heap.size, 1, none⟩) hz0).trans y1; have r2 := (hSw.cell (p := ⟨w.heap.size, 2, none⟩) hz0).trans y2; have r3 := (hSw.cell (p := ⟨g, k, none⟩) hgl).trans cg; go_simp; (try with_reducible rfl))); (try simp only [Act.put, List.setIfInBounds_toArray, List.set_cons_zero, List.set_cons_succ])) | (apply ot_skip rfl (by rfl) (by rfl) (fun _ => hBe); (try simp only [Act.put, List.setIfInBounds_toArray, List.set_cons_zero, List.set_cons_succ])))
       refine ot_do rfl (by rfl) (by rfl) (fun K hK => ?_)
       go_simp
       refine (hmk _ _ _ _ _ hS6 (by omega)).mono ?_
       rintro e w7 ⟨rfl, m7, hw7⟩
       have hBe7 : Below wr.heap.size wr w7 := by rw [hw7]; exact below_drewN hBe m7
       clear hw7
       refine hK.out _ _ (fun _ => hBe7) ?_
       (try simp only [Act.put, List.setIfInBounds_toArray, List.set_cons_zero, List.set_cons_succ])
       clear hK K
       repeat (first | (apply ot_tk rfl (by rfl) (by rfl) (by rfl); (focus (intro wx hSw; have r0 := (hSw.cell (p := ⟨w.heap.size, 0, none⟩) hz0).trans y0; have r1 := (hSw.cell (p := ⟨w.heap.size, 1, none⟩) hz0).trans y1; have r2 := (hSw.cell (p := ⟨w.heap.size, 2, none⟩) hz0).trans y2; have r3 := (hSw.cell (p := ⟨g, k, none⟩) hgl).trans cg; go_simp; (try with_reducible rfl))); (try simp only [Act.put, List.setIfInBounds_toArray, List.set_cons_zero, List.set_cons_succ])) | (apply ot_skip rfl (by rfl) (by rfl) (fun _ => hBe); (try simp only [Act.put, List.setIfInBounds_toArray, List.set_cons_zero, List.set_cons_succ])))
       refine ot_do rfl (by rfl) (by rfl) (fun K hK => ?_)
       go_simp
       refine hK.out _ _ (fun h => absurd h (by omega)) ?_
       (try simp only [Act.put, List.setIfInBounds_toArray, List.set_cons_zero, List.set_cons_succ])
       clear hK K
       refine ot_nil ?_
       go_wp2_with fail
       go_meet
       exact ⟨rfl, hBe7⟩
     case rest =>
      obtain ⟨rfl, hb9⟩ := hcut
      have HFR := hide (show ∀ x ∈ fI F, i64ok x from fun x hx => by
       obtain ⟨m, hm, rfl⟩ := List.mem_map.1 hx
       have := (hF.out.isK m hm).1
       have := HP.out
       exact ⟨by omega, by omega⟩)
      obtain ⟨mm, hmm⟩ : ∃ mm, nxt os N f j = mm := ⟨_, rfl⟩
      rw [hmm] at hnx hPu hMt ⊢
      have hmP : mm < 65536 := Nat.lt_of_lt_of_le hnx HP.out
      replace hO := hO.below hb9
      replace hBe := hB0.trans (hb9.mono hB0.size)
      have hSl := hO.here HFL.out.symm.symm HFR.out
      have hFl6 : F.length ≤ 1048576 := by omega
      clear hB0 y0 y1 y2 cg hb9 hel hge hmk hmm HR6 HG6 hfK hnx hgl hz0 hml
      go_wp2_with fail
      refine (sContains_any _ _ _ _ _ (fI F) mm hSl hFl6).mono ?_
      rintro e w3 ⟨rfl, m3, rfl⟩
      replace hO := hO.drewN m3
      replace hBe := below_drewN hBe m3
      by_cases hm : mm ∈ F
      ·have hT : hasB (fI F) (mm : Int) = true := hasB_iff.2 (fI_mem.2 hm)
       have hQ' := hide (hMt.out hm)
       rw [hT]
       clear hm hT
       go_wp2_with fail
       go_roundw
       case rel => exact ⟨j + 1, F, _, by omega, by go_num, rfl, hkF, hQ', hFl, hO, hBe⟩
       case measure => simp [intOf] <;> omega
      ·have hT : hasB (fI F) (mm : Int) = false := by
        refine Bool.eq_false_iff.2 fun h9 => hm (fI_mem.1 (hasB_iff.1 h9))
       have hQ' := hide (hPu.out hm)
       have hl' : (F ++ [mm]).length ≤ P := by have := hQ'.out.len; rw [HPE.out] at this; exact this
       have HAP := hide (fI_app F mm)
       have hflr := HFL.out
       have hflr6 : (fI F).length ≤ 1048576 := by omega
       clear hflr
       rw [hT]
       clear hm hT
       go_wp2_with (at_builtin; refine list_push _ rfl _ _ rfl W.heap.size _ (fI F) rfl (hO.alloc _) (mm : Int) _ _ rfl (Blk.new _ _ _) hflr6 (by have := hBe.size; simp at this ⊢; omega) (by simp) ?_; intro g' cap' w4 hP4)
       go_roundw
       case rel => exact ⟨j + 1, F ++ [mm], _, by omega, by go_num, rfl, by simp; omega, hQ', hl', by rw [HAP.out]; exact hP4.own, (hBe.alloc hBe.size _).trans (hP4.below (hO.alloc _) (by have := hBe.size; simp at this ⊢; omega))⟩
       case measure => simp [intOf] <;> omega
    ·obtain rfl : j = N := by omega
     have hR := hide hF.out.row
     obtain ⟨vA, vc, rfl⟩ := hO.val
     go_wp2_with fail
     go_roundw
     case rel => exact ⟨k + 1, F, _, by omega, by go_num, rfl, hR, hFl, hO, hBe⟩
     case measure => simp [intOf] <;> omega
  ·obtain rfl : k = F.length := by omega
   have hE := hide (hF.out.sort hG HN.out.symm (Nat.le_refl _))
   have hO' : Ow wr W.heap.size (.slice vA F.length vc) (fI F) := hO
   go_wp2_with fail
   refine (sort_any _ W.heap.size _ (fI F) hO (by rw [fI_len]; omega)).mono ?_
   rintro e w3 ⟨rfl, hO3, hg3⟩
   have hB3 : Below W.heap.size W w3 := hBe.grown hg3 hBe.size (fun b hb => (hO.lt b hb).1)
   rw [show srt (fI F) = sgK os N from hE.out] at hO3
   go_wp2_with fail
   go_ret
   exact ⟨_, rfl, hO3.less (Nat.le_of_lt hszW), hbW.trans (hB3.mono (Nat.le_of_lt hszW))⟩
open Classical in
noncomputable def allB (os : List Int) (N k : Nat) : List Nat := (List.range k).filter fun m => decide (Sbg os (mems N m))
theorem allB_t {os : List Int} {N k : Nat} (h : Sbg os (mems N k)) : allB os N (k + 1) = allB os N k ++ [k] := by
 unfold allB; rw [List.range_succ, List.filter_append]; simp [h]
theorem allB_f {os : List Int} {N k : Nat} (h : ¬ Sbg os (mems N k)) : allB os N (k + 1) = allB os N k := by
 unfold allB; rw [List.range_succ, List.filter_append]; simp [h]
theorem even_no {os : List Int} {N k : Nat} (h : k % 2 = 0) : ¬ Sbg os (mems N k) := fun hs => by
 have h0 := (mem_mems.1 hs.zero).2.2
 rw [show (0 : Int).toNat = 0 from rfl, Nat.testBit_zero] at h0
 simp at h0
 omega
theorem allB_one (os : List Int) (N : Nat) : allB os N 1 = [] := by
 rw [show (1 : Nat) = 0 + 1 from rfl, allB_f (even_no (by omega))]; rfl
theorem allB_end {os : List Int} {N k : Nat} (hN : 0 < N) (h1 : 2 ^ N ≤ k) (h2 : k ≤ 2 ^ N + 1) : allB os N k = allK os N := by
 have he : allB os N (2 ^ N) = allK os N := rfl
 rcases Nat.eq_or_lt_of_le h1 with h | h
 ·rw [← h]; exact he
 ·have : k = 2 ^ N + 1 := by omega
  rw [this, allB_f (even_no (by obtain ⟨m, rfl⟩ : ∃ m, N = m + 1 := ⟨N - 1, by omega⟩; rw [Nat.pow_succ]; omega))]
  exact he
theorem allB_len (os : List Int) (N k : Nat) : (allB os N k).length ≤ k := by
 unfold allB; exact Nat.le_trans (List.length_filter_le _ _) (by simp)
theorem mems_lst (N m : Nat) : IsLst N (mems N m) := fun j hj => by
 have hs := List.pairwise_iff_getElem.1 (mems_lt N m)
 have hm := mems_rng (N := N) (m := m) _ (gi_mem hj)
 refine ⟨by simp [inB]; omega, fun h0 => ?_⟩
 have := hs (j - 1) j (by omega) hj (by omega)
 rwa [gi_ext (by omega), gi_ext hj] at this
theorem mask_test {os : List Int} {N : Nat} (hG : OkG os) (hN : (N : Int) = prodL os) {m : Nat} (ho : m % 2 = 1) :
  0 < (mems N m).length ∧ (Sbg os (mems N m) → N % (mems N m).length = 0) ∧ (clB os (mems N m) = true ↔ Sbg os (mems N m)) := by
 have hge := hG.ge
 refine ⟨List.length_pos_of_mem (a := 0) (mem_mems.2 ⟨by omega, by omega, ?_⟩), fun h => sb_dvd hG hN h ((mems_lt N m).imp fun h => by omega) mems_rng, clB_iff⟩
 rw [show (0 : Int).toNat = 0 from rfl, Nat.testBit_zero]
 simp [ho]
set_option maxHeartbeats 4000000 in
theorem l11Masks_any (w : World) (A : Option Addr) (n c : Nat) (os : List Int) (D : Int) (A' : Option Addr) (n' c' : Nat) (N : Nat)
  (h : Sl w w.heap.size A n c os) (hG : OkG os) (hN : prodL os = N) :
  Calls Tryz.prog 90 #[.agg #[.slice A n c, .int .i64 D, .slice A' n' c']] w (Mk w (sgK os N)) := by
 have hge := hG.ge
 have h16 := hG.p16
 have N0 : 0 < N := by omega
 have N16 : N ≤ 16 := by omega
 have HN := hide hN
 have HP := hide (show (2 : Nat) ^ N ≤ 65536 from Nat.le_trans (Nat.pow_le_pow_right (by omega) N16) (by decide))
 have HT := hide (fun m ho => mask_test hG hN.symm (m := m) ho)
 have HE := hide (fun k h1 h2 => allB_end (os := os) N0 (k := k) h1 h2)
 have H0 := hide (allB_one os N)
 obtain ⟨P, hP⟩ : ∃ P : Nat, 2 ^ N = P := ⟨_, rfl⟩
 have hP6 : P ≤ 65536 := by rw [← hP]; exact HP.out
 have hP2 : 2 ≤ P := by rw [← hP]; exact Nat.le_trans (show 2 ≤ 2 ^ 1 by decide) (Nat.pow_le_pow_right (by omega) N0)
 have hPi : ((2 : Int) ^ N) = (P : Int) := by rw [← hP]; exact (Int.natCast_pow 2 N).symm
 have hws : wrap64 ((2 : Int) ^ N) = (P : Int) := by rw [hPi]; exact wrap64_ok _ ⟨by omega, by omega⟩
 have HPE := hide hP
 have HWS := hide hws
 clear hge h16 hP hPi hws
 have hlz := l10Size_any
 go_enter Tryz.func90, Tryz.ntmps90
 go_wp2_with fail
 obtain ⟨W, hW⟩ : ∃ W, w.alloc (.cells #[.slice A n c, .int .i64 D, .slice A' n' c'] 26) = W := ⟨_, rfl⟩
 have hbW : Below w.heap.size w W := by rw [← hW]; exact (by repeat (first | assumption | exact Below.refl _ _ | apply below_drewN | apply Below.drew | apply Below.alloc | apply Below.setCell | omega | (focus (simp; done)) | (focus (simp; omega))))
 have hszW : w.heap.size < W.heap.size := by rw [← hW]; simp
 have hsW := hide (show W.heap.size = w.heap.size + 1 by rw [← hW]; simp)
 have bM : Blk W w.heap.size 26 #[.slice A n c, .int .i64 D, .slice A' n' c'] := by rw [← hW]; exact Blk.new _ _ _
 have q0 : W.cell? ⟨w.heap.size, 0, none⟩ = some (.slice A n c) := by rw [← hW]; exact (Blk.new _ _ _).cell 0
 have q1 : W.cell? ⟨w.heap.size, 1, none⟩ = some (.int .i64 D) := by rw [← hW]; exact (Blk.new _ _ _).cell 1
 have q2 : W.cell? ⟨w.heap.size, 2, none⟩ = some (.slice A' n' c') := by rw [← hW]; exact (Blk.new _ _ _).cell 2
 rw [hW]
 clear hW
 have hsl : ∀ wd, Below W.heap.size W wd → Sl wd wd.heap.size A n c os := fun wd h9 => ((h.below hbW).more (Nat.le_of_lt hszW)).below h9 |>.more h9.size
 have hB2 : Below W.heap.size W (W.alloc (.cells #[] 2)) := (Below.refl _ _).alloc (Nat.le_refl _) _
 have hO2 : Ow (W.alloc (.cells #[] 2)) W.heap.size (.slice (some ⟨w.heap.size + 1, 0, none⟩) 0 0) [] := Ow.made' (xs := []) W #[] (w.heap.size + 1) 0 hsW.out rfl (by rw [hsW.out]; omega) rfl (by unfold maxLen; omega)
 clear hlz
 go_wp2_with fail
 refine (l10Size_any _ _ _ _ _ _ (hsl _ hB2) hG).mono ?_
 rw [HN.out]
 rintro e w2 ⟨rfl, m2, rfl⟩
 replace hO2 := hO2.drewN m2
 replace hB2 := below_drewN hB2 m2
 clear hN
 have hws := HWS.out
 have hN1 : IntKind.u64.wrap (N : Int) = (N : Int) := by rw [IntKind.wrap_u64]; omega
 go_wp2_with fail
 go_loopw [3, 5] (fun o i wr => ∃ (t : Nat) (vv : Value), 2 * t ≤ P ∧ i = .int .i64 ((2 * t + 1 : Nat) : Int) ∧ vv = o ∧ Ow wr W.heap.size vv (fI (allB os N (2 * t + 1))) ∧ Below W.heap.size W wr) (fun _ i _ => P + 2 - (intOf i).toNat)
 case atStart => exact ⟨0, _, by omega, rfl, rfl, by rw [H0.out]; exact hO2, hB2⟩
 case round =>
  clear hO2 hB2
  obtain ⟨t, vv, ht, rfl, rfl, hO, hBe⟩ := hrel
  obtain ⟨M, hM⟩ : ∃ M, 2 * t + 1 = M := ⟨_, rfl⟩
  have hMi : (2 * t + 1 : Nat) = M := hM
  have HM := hide hM
  rw [hMi] at hO ⊢
  clear hMi
  by_cases hlt : M < P
  ·obtain ⟨k0, k1, k2⟩ := HT.out M (by omega)
   have hle := mems_len N M
   have HLst := hide (show IsLst (prodL os) (mems N M) by rw [HN.out]; exact mems_lst N M)
   have HR6 := hide (show ∀ x ∈ mems N M, i64ok x from fun x hx => by have := mems_rng x hx; exact ⟨by omega, by omega⟩)
   have HA1 := hide (allB_t (os := os) (N := N) (k := M))
   have HA2 := hide (allB_f (os := os) (N := N) (k := M))
   have HA3 := hide (allB_f (os := os) (N := N) (k := M + 1) (even_no (by omega)))
   have hal := allB_len os N M
   have h65 : M < 65536 := by omega
   have hmv : IntKind.i64.wrap ((M : Int) + 2) = ((2 * (t + 1) + 1 : Nat) : Int) := by rw [wr64 _ ⟨by omega, by omega⟩]; omega
   have hm2 : ((M + 2 : Nat) : Int) = ((2 * (t + 1) + 1 : Nat) : Int) := by omega
   go_wp2_with fail
   refine (l11Members_any _ N M N16 h65).mono ?_
   rintro e w3 ⟨v, rfl, hV, hb3⟩
   replace hO := hO.below hb3
   replace hBe := hBe.trans (hb3.mono hBe.size)
   clear hb3
   obtain ⟨sA, sc, rfl, hS3⟩ := hV.sl HR6.out
   have hcl := fun W A n c A' n' c' L l lc h1 h2 => l11Closed_any W A n c os D A' n' c' L l lc (mems N M) h1 h2 hG HLst.out
   obtain ⟨L, hL⟩ : ∃ L, (mems N M).length = L := ⟨_, rfl⟩
   rw [hL] at k0 k1 hS3 hle ⊢
   have hL0 : ¬ L = 0 := by omega
   clear hL hV
   obtain ⟨b, hb⟩ : ∃ b, clB os (mems N M) = b := ⟨_, rfl⟩
   simp only [hb] at hcl k2
   have K1 := hide k1
   have K2 := hide k2
   have r0 := (hBe.cell (p := ⟨w.heap.size, 0, none⟩) hszW).trans q0
   have r1 := (hBe.cell (p := ⟨w.heap.size, 1, none⟩) hszW).trans q1
   have r2 := (hBe.cell (p := ⟨w.heap.size, 2, none⟩) hszW).trans q2
   have h65i : (M : Int) < (P : Int) := by omega
   clear k1 k2 hb hM
   by_cases hr : N % L = 0
   ·have hrm : ((N : Int).tmod (L : Int) == 0) = true := by rw [← Int.ofNat_tmod, hr]; rfl
    cases b with
    | true =>
     have hS := K2.out.1 rfl
     have HO := hide (show allB os N (2 * (t + 1) + 1) = allB os N M ++ [M] by rw [show 2 * (t + 1) + 1 = M + 1 + 1 by have := HM.out; omega, HA3.out, HA1.out hS])
     have HAP := hide (fI_app (allB os N M) M)
     have hfl : (fI (allB os N M)).length ≤ 1048576 := by rw [fI_len]; omega
     clear hS
     go_wp2_with fail
     refine (hcl _ _ _ _ _ _ _ _ _ _ (hsl _ hBe) hS3).mono ?_
     rintro e w4 ⟨rfl, hb4⟩
     replace hO := hO.below hb4
     replace hBe := hBe.trans (hb4.mono hBe.size)
     clear hb4 r0 r1 r2 hcl hS3
     go_wp2_with (at_builtin; refine list_push _ rfl _ _ rfl W.heap.size _ _ rfl (hO.alloc _) (M : Int) _ _ rfl (Blk.new _ _ _) hfl (by have := hBe.size; simp at this ⊢; omega) (by simp) ?_; intro g' cap' w5 hP4)
     go_roundw
     case rel => exact ⟨t + 1, _, by omega, by go_num, rfl, by rw [HO.out, HAP.out]; exact hP4.own, (hBe.alloc hBe.size _).trans (hP4.below (hO.alloc _) (by have := hBe.size; simp at this ⊢; omega))⟩
     case measure => simp [intOf] <;> omega
    | false =>
     have hS : ¬ Sbg os (mems N M) := fun h9 => by have := K2.out.2 h9; cases this
     have HO := hide (show allB os N (2 * (t + 1) + 1) = allB os N M by rw [show 2 * (t + 1) + 1 = M + 1 + 1 by have := HM.out; omega, HA3.out, HA2.out hS])
     clear hS
     go_wp2_with fail
     refine (hcl _ _ _ _ _ _ _ _ _ _ (hsl _ hBe) hS3).mono ?_
     rintro e w4 ⟨rfl, hb4⟩
     replace hO := hO.below hb4
     replace hBe := hBe.trans (hb4.mono hBe.size)
     clear hb4 r0 r1 r2 hcl hS3
     go_wp2_with fail
     go_roundw
     case rel => exact ⟨t + 1, vv, by omega, by go_num, rfl, by rw [HO.out]; exact hO, hBe⟩
     case measure => simp [intOf] <;> omega
   ·have hrm : ((N : Int).tmod (L : Int) == 0) = false := by rw [← Int.ofNat_tmod, beq_eq_false_iff_ne]; omega
    have hS : ¬ Sbg os (mems N M) := fun h9 => hr (K1.out h9)
    have HO := hide (show allB os N (2 * (t + 1) + 1) = allB os N M by rw [show 2 * (t + 1) + 1 = M + 1 + 1 by have := HM.out; omega, HA3.out, HA2.out hS])
    clear hS
    go_wp2_with fail
    go_roundw
    case rel => exact ⟨t + 1, vv, by omega, by go_num, rfl, by rw [HO.out]; exact hO, hBe⟩
    case measure => simp [intOf] <;> omega
  ·have hE := hide (show fI (allB os N M) = sgK os N by rw [HE.out M (by rw [HPE.out]; omega) (by rw [HPE.out]; omega)]; rfl)
   rw [hE.out] at hO
   have hlti : ¬ (M : Int) < (P : Int) := by omega
   go_wp2_with fail
   go_ret
   exact ⟨_, rfl, hO.less (Nat.le_of_lt hszW), hbW.trans (hBe.mono (Nat.le_of_lt hszW))⟩
end Go.Proofs.YtbpihnpakolooaaGreatDoor
