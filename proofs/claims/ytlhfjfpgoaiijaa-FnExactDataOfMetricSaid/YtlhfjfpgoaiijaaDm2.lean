
/- Sums and products of square tables as the reference takes them: l01Numbers, l01Dot, l12Whole, l12Gauss, l12Times. The product of two square tables as the reference takes it: l12Times. -/
import Derived.Test.YtlhfjfpgoaiijaaDm0
import Derived.Test.YtlhfjfpgoaiijaaGa
import Derived.WalkLawsBesides
import Derived.Test.YtlhfjfpgoaiijaaNa
namespace Go.Proofs.Ytlhfjfpgoaiijaa
open Go Go.RowKit Grp
set_option linter.unusedSimpArgs false
set_option linter.unusedVariables false

/-- Where the rows of a square table lie, and its numbers. -/
structure Vq (w : World) (B n b off : Nat) (b1 o1 c1 : Nat → Nat) (f : Nat → Nat → Int) : Prop where
  hb : b < B
  h1 : ∀ i, i < n → w.cell? ⟨b, off + i, none⟩ = some (.slice (some ⟨b1 i, o1 i, none⟩) n (c1 i)) ∧ b1 i < B ∧ n ≤ c1 i
  h2 : ∀ i j, i < n → j < n → w.cell? ⟨b1 i, o1 i + j, none⟩ = some (.int .i64 (f i j))
theorem Vq.keep {w w' : World} {B B' n b off : Nat} {b1 o1 c1 : Nat → Nat} {f : Nat → Nat → Int} (h : Vq w B n b off b1 o1 c1 f) (hb : Below B w w') (hB : B ≤ B') : Vq w' B' n b off b1 o1 c1 f :=
  ⟨Nat.lt_of_lt_of_le h.hb hB, fun i hi => ⟨(hb.cell (p := ⟨b, off + i, none⟩) h.hb).trans (h.h1 i hi).1, Nat.lt_of_lt_of_le (h.h1 i hi).2.1 hB, (h.h1 i hi).2.2⟩,
   fun i j hi hj => (hb.cell (p := ⟨b1 i, o1 i + j, none⟩) (h.h1 i hi).2.1).trans (h.h2 i j hi hj)⟩
theorem Vq.all {w w' : World} {n b off : Nat} {b1 o1 c1 : Nat → Nat} {f : Nat → Nat → Int} (h : Vq w w.heap.size n b off b1 o1 c1 f) (hb : Below w.heap.size w w') : Vq w' w'.heap.size n b off b1 o1 c1 f := h.keep hb hb.size
theorem mat_getq {n : Nat} {f : Nat → Nat → Int} {i : Nat} (hi : i < n) : (mat n f)[i]? = some ((List.range n).map (f i)) := by
  unfold mat; simp [hi]
theorem vq_of {w : World} {B : Nat} {A : Option Addr} {n c : Nat} {f : Nat → Nat → Int} (h : Sl2 w B A n c (mat n f)) (hpos : 0 < n) :
    ∃ b off b1 o1 c1, A = some ⟨b, off, none⟩ ∧ Vq w B n b off b1 o1 c1 f := by
  obtain ⟨b, off, rfl, hb⟩ := RdL.addr h hpos
  have k1 : ∀ i, i < n → ∃ z : Nat × Nat × Nat, w.cell? ⟨b, off + i, none⟩ = some (.slice (some ⟨z.1, z.2.1, none⟩) n z.2.2) ∧ z.1 < B ∧ n ≤ z.2.2 ∧ ∀ j, j < n → w.cell? ⟨z.1, z.2.1 + j, none⟩ = some (.int .i64 (f i j)) := by
    intro i hi
    obtain ⟨A', n', c', h1, h2⟩ := h.row (mat_getq hi)
    have hl := h2.len
    obtain rfl : n' = n := by simpa using hl.symm
    obtain ⟨b', off', rfl, hb'⟩ := Sl.addr h2 hpos
    refine ⟨(b', off', c'), h1, hb', h2.cap, fun j hj => ?_⟩
    have := h2.row hj
    rwa [show gi ((List.range n').map (f i)) j = f i j by simp [gi, List.getD_eq_getElem?_getD, hj]] at this
  obtain ⟨z, hz⟩ := Go.Deep.choose_lt k1
  exact ⟨b, off, fun i => (z i).1, fun i => (z i).2.1, fun i => (z i).2.2, rfl, hb, fun i hi => ⟨(hz i hi).1, (hz i hi).2.1, (hz i hi).2.2.1⟩, fun i j hi hj => (hz i hi).2.2.2 j hj⟩
def InP (x : Int) : Prop := 0 ≤ x ∧ x < 55441
theorem mul_p {a b : Int} (ha : InP a) (hb : InP b) : 0 ≤ a * b ∧ a * b ≤ 3073593600 :=
  ⟨Int.mul_nonneg ha.1 hb.1, Int.le_trans (Int.mul_le_mul (show a ≤ 55440 by have := ha.2; omega) (show b ≤ 55440 by have := hb.2; omega) hb.1 (by omega)) (by omega)⟩
theorem inP_mod (x : Int) : InP (x % 55441) := ⟨Int.emod_nonneg _ (by omega), Int.emod_lt_of_pos _ (by omega)⟩
theorem sm_bd {f : Nat → Int} {n : Nat} (h : ∀ k, k < n → InP (f k)) : 0 ≤ sm f n ∧ sm f n ≤ 55441 * n := by
  induction n with
  | zero => simp [sm]
  | succ n ih =>
    have h1 := ih fun k hk => h k (by omega)
    have h2 := h n (by omega)
    unfold InP at h2
    simp only [sm]
    omega
theorem gaS_in (n : Nat) (f : Nat → Nat → Int) (t : Nat → Int) : InP (gaS n f t) := inP_mod _
theorem tmS_in (n : Nat) (f g : Nat → Nat → Int) (i j : Nat) : InP (tmS n f g i j) := inP_mod _
theorem whS_in (n : Nat) (f : Nat → Nat → Int) : InP (whS n f) := inP_mod _

theorem l01Number_t (w : World) (x : Int) (h0 : 0 ≤ x) (h1 : x < 55441) : Calls Try.prog 68 #[.int .i64 x] w (Qt w (.bool true)) := by
  go_enter Try.func68, Try.ntmps68
  go_wp2_with fail
  refine (l01In_v true x 0 55440 w (by unfold inB; simp; omega)).mono ?_
  rintro e w' ⟨rfl, m, rfl⟩
  go_wp2
  go_ret
  exact Qt.d1 rfl
theorem l01Numbers_t (w : World) (B : Nat) (A : Option Addr) (n c : Nat) (xs : List Int) (h : Sl w B A n c xs) (hn : n ≤ 1048576) (hr : ∀ x ∈ xs, InP x) : Calls Try.prog 53 #[.slice A n c] w (Qt w (.bool true)) := by
  go_enter Try.func53, Try.ntmps53
  go_wp2
  go_loopw [3] (fun i wr => ∃ k : Nat, k ≤ n ∧ i = .int .i64 k ∧ ∃ m, w.drewN m = wr) (fun i _ => n - (intOf i).toNat)
  case atStart => exact ⟨0, by omega, rfl, 0, rfl⟩
  case round =>
    obtain ⟨k, hk, rfl, m, rfl⟩ := hrel
    by_cases hlt : k < n
    · obtain ⟨b, off, rfl, hb, hc⟩ := h.at_ (by omega)
      have c1 := hc k hlt
      have r1 := hr _ (gi_mem (show k < xs.length by rw [h.len]; exact hlt))
      obtain ⟨v, ev⟩ : ∃ v, gi xs k = v := ⟨_, rfl⟩
      rw [ev] at c1 r1
      clear hc ev
      go_wp2_with fail
      refine (l01Number_t _ v r1.1 r1.2).mono ?_
      rintro e w' ⟨rfl, m2, rfl⟩
      go_wp2_with fail
      go_roundw
      case rel => exact ⟨k + 1, by omega, by go_num, _, rfl⟩
      case measure => simp [intOf] <;> omega
    · go_wp2
      go_ret
      exact Qt.d1 rfl
theorem l01Inv_any (w : World) (a : Int) (ha : InP a) : Calls Try.prog 73 #[.int .i64 a] w (Qt w (.int .i64 (ivS a))) := by
  obtain ⟨k, rfl⟩ := Int.eq_ofNat_of_zero_le ha.1
  have hk : k < 55441 := by have := ha.2; omega
  have HI := hide (fun W => l01Pow_any W k 55439 hk (by omega))
  go_enter Try.func73, Try.ntmps73
  go_wp2_with fail
  refine (HI.out _).mono ?_
  rintro e w' ⟨rfl, m, rfl⟩
  go_wp2
  go_ret
  exact Qt.d1 (int_eq (by unfold ivS; simp))
set_option maxHeartbeats 1000000 in
theorem l01Dot_any (w : World) (B B' : Nat) (b off b' off' n c c' : Nat) (f g : Nat → Int) (h : ∀ k, k < n → w.cell? ⟨b, off + k, none⟩ = some (.int .i64 (f k))) (h' : ∀ k, k < n → w.cell? ⟨b', off' + k, none⟩ = some (.int .i64 (g k)))
    (hc : n ≤ c) (hc' : n ≤ c') (hn : n ≤ 1048576) (hf : ∀ k, k < n → InP (f k)) (hg : ∀ k, k < n → InP (g k)) :
    Calls Try.prog 75 #[.slice (some ⟨b, off, none⟩) n c, .slice (some ⟨b', off', none⟩) n c'] w (Qt w (.int .i64 (sm (fun k => f k * g k) n % 55441))) := by
  have H1 := hide h
  have H2 := hide h'
  clear h h'
  go_enter Try.func75, Try.ntmps75
  go_wp2
  go_loopw [5, 6] (fun s i wr => ∃ (k : Nat) (v : Int), k ≤ n ∧ i = .int .i64 k ∧ s = .int .i64 v ∧ Hid (v = sm (fun k => f k * g k) k % 55441) ∧ ∃ m, w.drewN m = wr) (fun _ i _ => n - (intOf i).toNat)
  case atStart => exact ⟨0, 0, by omega, rfl, rfl, hide rfl, 0, rfl⟩
  case round =>
    obtain ⟨k, v, hk, rfl, rfl, HV, m, rfl⟩ := hrel
    by_cases hlt : k < n
    · have c1 := H1.out k hlt
      have c2 := H2.out k hlt
      have hx := mul_p (hf k hlt) (hg k hlt)
      have hv : InP v := HV.out ▸ inP_mod _
      obtain ⟨x, ex⟩ : ∃ x, f k = x := ⟨_, rfl⟩
      obtain ⟨y, ey⟩ : ∃ y, g k = y := ⟨_, rfl⟩
      rw [ex] at c1
      rw [ey] at c2
      rw [ex, ey] at hx
      unfold InP at hv
      have w1 : IntKind.i64.wrap (x * y) = x * y := wr64 _ ⟨by omega, by omega⟩
      have w2 : IntKind.i64.wrap (v + x * y) = v + x * y := wr64 _ ⟨by omega, by omega⟩
      have w3 : (v + x * y).tmod 55441 = (v + x * y) % 55441 := Int.tmod_eq_emod_of_nonneg (by omega)
      have HN := hide (show (v + x * y) % 55441 = sm (fun k => f k * g k) (k + 1) % 55441 by
        rw [HV.out]; simp only [sm]; rw [ex, ey, Int.emod_add_emod])
      have w4 : InP ((v + x * y) % 55441) := inP_mod _
      unfold InP at w4
      have w5 : IntKind.i64.wrap ((v + x * y) % 55441) = (v + x * y) % 55441 := wr64 _ ⟨by omega, by omega⟩
      clear ex ey
      go_wp2
      go_quiet (fail)
      go_wp2
      go_roundw
      case rel => exact ⟨k + 1, _, by omega, by go_num, rfl, HN, _, rfl⟩
      case measure => simp [intOf] <;> omega
    · obtain rfl : k = n := by omega
      go_wp2
      go_ret
      exact Qt.d1 (int_eq HV.out)
set_option maxHeartbeats 1000000 in
theorem l12Whole_any (w : World) (b off n c : Nat) (b1 o1 c1 : Nat → Nat) (f : Nat → Nat → Int) (A' : Option Addr) (c' : Nat) (ts : List Int) (V : Vq w w.heap.size n b off b1 o1 c1 f) (hT : Sl w w.heap.size A' n c' ts) (hn : n ≤ 16) (hp : 0 < n) (hc : n ≤ c) (hf : ∀ i j, i < n → j < n → InP (f i j)) :
    Calls Try.prog 54 #[.agg #[.slice (some ⟨b, off, none⟩) n c, .slice A' n c']] w (Re w (.int .i64 (whS n f))) := by
  go_enter Try.func54, Try.ntmps54
  go_wp2_with fail
  obtain ⟨W, hW⟩ : ∃ W, w.alloc (.cells #[.slice (some ⟨b, off, none⟩) n c, .slice A' n c'] 28) = W := ⟨_, rfl⟩
  have hbW : Below w.heap.size w W := by rw [← hW]; exact (by repeat (first | assumption | exact Below.refl _ _ | apply below_drewN | apply Below.drew | apply Below.alloc | apply Below.setCell | omega | (focus (simp; done)) | (focus (simp; omega))))
  have hszW : W.heap.size = w.heap.size + 1 := by rw [← hW]; simp
  have q0 : W.cell? ⟨w.heap.size, 0, none⟩ = some (.slice (some ⟨b, off, none⟩) n c) := by rw [← hW]; exact (Blk.new _ _ _).cell 0
  have q1 : W.cell? ⟨w.heap.size, 1, none⟩ = some (.slice A' n c') := by rw [← hW]; exact (Blk.new _ _ _).cell 1
  rw [hW]
  clear hW
  replace V := V.all hbW
  replace hT := (hT.below hbW).more hbW.size
  go_wp2_with fail
  go_loopw [3, 4] (fun s i wr => ∃ (k : Nat) (v : Int), k ≤ n ∧ i = .int .i64 k ∧ s = .int .i64 v ∧ Hid (v = sm (fun i => f 0 i * f 0 i % 55441) k) ∧ ∃ m, W.drewN m = wr) (fun _ i _ => n - (intOf i).toNat)
  case atStart => exact ⟨0, 0, by omega, rfl, rfl, hide rfl, 0, rfl⟩
  case round =>
    obtain ⟨k, v, hk, rfl, rfl, HV, m, rfl⟩ := hrel
    have hv : 0 ≤ v ∧ v ≤ 55441 * k := HV.out ▸ sm_bd fun i hi => inP_mod _
    by_cases hlt : k < n
    · have a0 := (V.h1 0 hp).1
      have a1 := V.h2 0 k hp hlt
      have hcc := (V.h1 0 hp).2.2
      simp only [Nat.add_zero] at a0
      have hx := mul_p (hf 0 k hp hlt) (hf 0 k hp hlt)
      obtain ⟨x, ex⟩ : ∃ x, f 0 k = x := ⟨_, rfl⟩
      rw [ex] at a1 hx
      have w1 : IntKind.i64.wrap (x * x) = x * x := wr64 _ ⟨by omega, by omega⟩
      have w3 : (x * x).tmod 55441 = x * x % 55441 := Int.tmod_eq_emod_of_nonneg (by omega)
      have w4 := inP_mod (x * x)
      unfold InP at w4
      have w2 : IntKind.i64.wrap (v + x * x % 55441) = v + x * x % 55441 := wr64 _ ⟨by omega, by omega⟩
      have w5 : IntKind.i64.wrap (x * x % 55441) = x * x % 55441 := wr64 _ ⟨by omega, by omega⟩
      have HN := hide (show v + x * x % 55441 = sm (fun i => f 0 i * f 0 i % 55441) (k + 1) by
        rw [HV.out]; simp only [sm]; rw [ex])
      clear ex
      go_wp2
      go_quiet (fail)
      go_wp2
      go_roundw
      case rel => exact ⟨k + 1, _, by omega, by go_num, rfl, HN, _, rfl⟩
      case measure => simp [intOf] <;> omega
    · obtain rfl : k = n := by omega
      have w3 : v.tmod 55441 = v % 55441 := Int.tmod_eq_emod_of_nonneg (by omega)
      go_wp2
      go_ret
      exact ⟨by unfold whS; rw [← HV.out]; rfl, below_drewN hbW _⟩
set_option maxHeartbeats 1000000 in
theorem l12Gauss_any (w : World) (b off n c : Nat) (b1 o1 c1 : Nat → Nat) (f : Nat → Nat → Int) (A' : Option Addr) (c' : Nat) (ts : List Int) (V : Vq w w.heap.size n b off b1 o1 c1 f) (hT : Sl w w.heap.size A' n c' ts) (hn : n ≤ 16) (hp : 0 < n) (hc : n ≤ c) (hf : ∀ i j, i < n → j < n → InP (f i j)) (ht : ∀ x ∈ ts, InP x) :
    Calls Try.prog 57 #[.agg #[.slice (some ⟨b, off, none⟩) n c, .slice A' n c'], .slice A' n c'] w (Re w (.int .i64 (gaS n f (fun i => gi ts i)))) := by
  go_enter Try.func57, Try.ntmps57
  go_wp2_with fail
  obtain ⟨W, hW⟩ : ∃ W, w.alloc (.cells #[.slice (some ⟨b, off, none⟩) n c, .slice A' n c'] 28) = W := ⟨_, rfl⟩
  have hbW : Below w.heap.size w W := by rw [← hW]; exact (by repeat (first | assumption | exact Below.refl _ _ | apply below_drewN | apply Below.drew | apply Below.alloc | apply Below.setCell | omega | (focus (simp; done)) | (focus (simp; omega))))
  have hszW : W.heap.size = w.heap.size + 1 := by rw [← hW]; simp
  have q0 : W.cell? ⟨w.heap.size, 0, none⟩ = some (.slice (some ⟨b, off, none⟩) n c) := by rw [← hW]; exact (Blk.new _ _ _).cell 0
  have q1 : W.cell? ⟨w.heap.size, 1, none⟩ = some (.slice A' n c') := by rw [← hW]; exact (Blk.new _ _ _).cell 1
  rw [hW]
  clear hW
  replace V := V.all hbW
  replace hT := (hT.below hbW).more hbW.size
  go_wp2_with fail
  go_loopw [5, 6] (fun s i wr => ∃ (k : Nat) (v : Int), k ≤ n ∧ i = .int .i64 k ∧ s = .int .i64 v ∧ Hid (v = sm (fun i => f 0 i * f 0 i % 55441 * gi ts i % 55441) k) ∧ ∃ m, W.drewN m = wr) (fun _ i _ => n - (intOf i).toNat)
  case atStart => exact ⟨0, 0, by omega, rfl, rfl, hide rfl, 0, rfl⟩
  case round =>
    obtain ⟨k, v, hk, rfl, rfl, HV, m, rfl⟩ := hrel
    have hv : 0 ≤ v ∧ v ≤ 55441 * k := HV.out ▸ sm_bd fun i hi => inP_mod _
    by_cases hlt : k < n
    · have a0 := (V.h1 0 hp).1
      have a1 := V.h2 0 k hp hlt
      have hcc := (V.h1 0 hp).2.2
      simp only [Nat.add_zero] at a0
      have hx := mul_p (hf 0 k hp hlt) (hf 0 k hp hlt)
      obtain ⟨bt', ot', rfl, hbt, hct⟩ := hT.at_ hp
      have a3 := hct k hlt
      have hcT := hT.cap
      have ry := ht _ (gi_mem (show k < ts.length by rw [hT.len]; exact hlt))
      obtain ⟨x, ex⟩ : ∃ x, f 0 k = x := ⟨_, rfl⟩
      obtain ⟨y, ey⟩ : ∃ y, gi ts k = y := ⟨_, rfl⟩
      rw [ex] at a1 hx
      rw [ey] at a3 ry
      have w1 : IntKind.i64.wrap (x * x) = x * x := wr64 _ ⟨by omega, by omega⟩
      have w3 : (x * x).tmod 55441 = x * x % 55441 := Int.tmod_eq_emod_of_nonneg (by omega)
      have w4 := inP_mod (x * x)
      obtain ⟨r, hr⟩ : ∃ r, x * x % 55441 = r := ⟨_, rfl⟩
      have HR := hide hr
      rw [hr] at w3 w4
      have hx2 := mul_p w4 ry
      unfold InP at w4
      have w5 : IntKind.i64.wrap r = r := wr64 _ ⟨by omega, by omega⟩
      have w6 : IntKind.i64.wrap (r * y) = r * y := wr64 _ ⟨by omega, by omega⟩
      have w7 : (r * y).tmod 55441 = r * y % 55441 := Int.tmod_eq_emod_of_nonneg (by omega)
      have w8 := inP_mod (r * y)
      unfold InP at w8
      have w9 : IntKind.i64.wrap (r * y % 55441) = r * y % 55441 := wr64 _ ⟨by omega, by omega⟩
      have w2 : IntKind.i64.wrap (v + r * y % 55441) = v + r * y % 55441 := wr64 _ ⟨by omega, by omega⟩
      have HN := hide (show v + r * y % 55441 = sm (fun i => f 0 i * f 0 i % 55441 * gi ts i % 55441) (k + 1) by
        rw [HV.out]; simp only [sm]; rw [ex, ey, hr])
      clear ex ey hr hct hx hx2 ry
      go_wp2
      go_quiet (fail)
      go_wp2
      go_roundw
      case rel => exact ⟨k + 1, _, by omega, by go_num, rfl, HN, _, rfl⟩
      case measure => simp [intOf] <;> omega
    · obtain rfl : k = n := by omega
      have w3 : v.tmod 55441 = v % 55441 := Int.tmod_eq_emod_of_nonneg (by omega)
      go_wp2
      go_ret
      exact ⟨by unfold gaS; rw [← HV.out]; rfl, below_drewN hbW _⟩
/-- A row just made is an owned row. -/
theorem E1.of_owq {w : World} {B : Nat} {v : Value} {xs : List Int} (h : Ow w B v xs) (hr : ∀ x ∈ xs, i64ok x) : E1 w v xs (fun b => B ≤ b ∧ b < w.heap.size) := ⟨h.less (Nat.zero_le _), hr, fun b hb => h.lt b hb, fun b hb => hb.2⟩
/-- The first k rows of n numbers each. -/
def rowsF (n : Nat) (f : Nat → Nat → Int) (k : Nat) : List (List Int) := (List.range k).map fun i => (List.range n).map (f i)
theorem rowsF_zero (n : Nat) (f : Nat → Nat → Int) : rowsF n f 0 = [] := rfl
theorem rowsF_succ (n : Nat) (f : Nat → Nat → Int) (k : Nat) : rowsF n f k ++ [(List.range n).map (f k)] = rowsF n f (k + 1) := by simp [rowsF, List.range_succ]
theorem rowsF_len (n : Nat) (f : Nat → Nat → Int) (k : Nat) : (rowsF n f k).length = k := by simp [rowsF]
theorem rowsF_all (n : Nat) (f : Nat → Nat → Int) : rowsF n f n = mat n f := rfl
theorem rowR_ok {n : Nat} {f : Nat → Int} (h : ∀ j, j < n → InP (f j)) : ∀ x ∈ (List.range n).map f, i64ok x := by
  intro x hx
  obtain ⟨j, hj, rfl⟩ := List.mem_map.1 hx
  have := h j (List.mem_range.1 hj)
  unfold InP at this
  exact ⟨by omega, by omega⟩
theorem rowR_snoc (f : Nat → Int) (y : Nat) : (List.range y).map f ++ [f y] = (List.range (y + 1)).map f := by simp [List.range_succ]
set_option maxHeartbeats 4000000 in
theorem l12Times_any (w : World) (b off n c : Nat) (b1 o1 c1 : Nat → Nat) (f : Nat → Nat → Int) (b' off' c' : Nat) (b1' o1' c1' : Nat → Nat) (g : Nat → Nat → Int) (V : Vq w w.heap.size n b off b1 o1 c1 f) (V' : Vq w w.heap.size n b' off' b1' o1' c1' g)
    (hn : n ≤ 16) (hp : 0 < n) (hc : n ≤ c) (hc' : n ≤ c') (hf : ∀ i j, i < n → j < n → InP (f i j)) (hg : ∀ i j, i < n → j < n → InP (g i j)) :
    Calls Try.prog 56 #[.slice (some ⟨b, off, none⟩) n c, .slice (some ⟨b', off', none⟩) n c'] w (MkE E2 w (mat n (tmS n f g))) := by
  go_enter Try.func56, Try.ntmps56
  go_wp2_with fail
  have hG0 : Grow E1 22 w.heap.size (w.alloc (.cells #[] 22)) (.slice (some ⟨w.heap.size, 0, none⟩) 0 0) (rowsF n (tmS n f g) 0) := Grow.start rfl (Nat.le_refl _)
  go_loopw [5, 6] (fun o i wr => ∃ (k : Nat) (vv : Value), k ≤ n ∧ i = .int .i64 k ∧ vv = o ∧ Grow E1 22 w.heap.size wr vv (rowsF n (tmS n f g) k) ∧ Below w.heap.size w wr) (fun _ i _ => n - (intOf i).toNat)
  case atStart => exact ⟨0, _, by omega, rfl, rfl, hG0, (Below.refl _ _).alloc (Nat.le_refl _) _⟩
  case round =>
    clear hG0
    obtain ⟨x, vv, hk, rfl, rfl, hG, hBe⟩ := hrel
    by_cases hlt : x < n
    · obtain ⟨w1, rfl⟩ : ∃ w1, w1 = wr := ⟨_, rfl⟩
      have hsz := hBe.size
      have U := V.keep hBe hsz
      have U' := V'.keep hBe hsz
      have hR0 : Ow (w1.alloc (.cells #[] 2)) w1.heap.size (.slice (some ⟨w1.heap.size, 0, none⟩) 0 0) ((List.range 0).map (tmS n f g x)) := Ow.made' _ _ _ _ rfl rfl (Nat.le_refl _) rfl (by unfold maxLen; omega)
      go_wp2_with fail
      go_loopw [7, 8] (fun r j wx => ∃ (y : Nat) (rr : Value), y ≤ n ∧ j = .int .i64 y ∧ rr = r ∧ Ow wx w1.heap.size rr ((List.range y).map (tmS n f g x)) ∧ Below w1.heap.size w1 wx) (fun _ j _ => n - (intOf j).toNat)
      case atStart => exact ⟨0, _, by omega, rfl, rfl, hR0, (Below.refl _ _).alloc (Nat.le_refl _) _⟩
      case round =>
        clear hR0
        obtain ⟨y, rr, hy, rfl, rfl, hO, hBx⟩ := hrel
        have hsx := hBx.size
        by_cases hly : y < n
        · have T := U.keep hBx hsx
          have T' := U'.keep hBx hsx
          obtain ⟨w2, rfl⟩ : ∃ w2, w2 = wr := ⟨_, rfl⟩
          go_wp2_with fail
          go_loopw [9, 10] (fun s kk wy => ∃ (z : Nat) (v : Int), z ≤ n ∧ kk = .int .i64 z ∧ s = .int .i64 v ∧ Hid (v = sm (fun k => f x k * g k y % 55441) z) ∧ ∃ m, w2.drewN m = wy) (fun _ kk _ => n - (intOf kk).toNat)
          case atStart => exact ⟨0, 0, by omega, rfl, rfl, hide rfl, 0, rfl⟩
          case round =>
            obtain ⟨z, v, hz, rfl, rfl, HV, m, rfl⟩ := hrel
            have hv : 0 ≤ v ∧ v ≤ 55441 * z := HV.out ▸ sm_bd fun i hi => inP_mod _
            by_cases hlz : z < n
            · have a0 := (T.h1 x hlt).1
              have a1 := T.h2 x z hlt hlz
              have a2 := (T'.h1 z hlz).1
              have a3 := T'.h2 z y hlz hly
              have k0 := (T.h1 x hlt).2.2
              have k1 := (T'.h1 z hlz).2.2
              have hx := mul_p (hf x z hlt hlz) (hg z y hlz hly)
              obtain ⟨p, ep⟩ : ∃ p, f x z = p := ⟨_, rfl⟩
              obtain ⟨q, eq⟩ : ∃ q, g z y = q := ⟨_, rfl⟩
              rw [ep] at a1
              rw [eq] at a3
              rw [ep, eq] at hx
              have w1' : IntKind.i64.wrap (p * q) = p * q := wr64 _ ⟨by omega, by omega⟩
              have w3 : (p * q).tmod 55441 = p * q % 55441 := Int.tmod_eq_emod_of_nonneg (by omega)
              have w4 := inP_mod (p * q)
              unfold InP at w4
              have w5 : IntKind.i64.wrap (p * q % 55441) = p * q % 55441 := wr64 _ ⟨by omega, by omega⟩
              have w6 : IntKind.i64.wrap (v + p * q % 55441) = v + p * q % 55441 := wr64 _ ⟨by omega, by omega⟩
              have HN := hide (show v + p * q % 55441 = sm (fun k => f x k * g k y % 55441) (z + 1) by
                rw [HV.out]; simp only [sm]; rw [ep, eq])
              clear ep eq hx
              go_wp2
              go_quiet (fail)
              go_wp2
              go_roundw
              case rel => exact ⟨z + 1, _, by omega, by go_num, rfl, HN, _, rfl⟩
              case measure => simp [intOf] <;> omega
            · obtain rfl : z = n := by omega
              have w3 : v.tmod 55441 = v % 55441 := Int.tmod_eq_emod_of_nonneg (by omega)
              have hO2 := hO.drewN m
              have hsd : (w2.drewN m).heap.size = w2.heap.size := rfl
              have hB2 : Below w1.heap.size w1 (w2.drewN m) := below_drewN hBx m
              obtain ⟨w3', hw3⟩ : ∃ w3', w2.drewN m = w3' := ⟨_, rfl⟩
              rw [hw3] at hO2 hB2 hsd ⊢
              have w4 := inP_mod v
              unfold InP at w4
              have HQ := hide (show (List.range y).map (tmS z f g x) ++ [v % 55441] = (List.range (y + 1)).map (tmS z f g x) by
                rw [← rowR_snoc]; unfold tmS; rw [← HV.out])
              obtain ⟨q, hq⟩ : ∃ q, v % 55441 = q := ⟨_, rfl⟩
              rw [hq] at w3 HQ
              have hln : ((List.range y).map (tmS z f g x)).length = y := by simp
              clear hw3 hq hO hBx hsd
              have hs2 := hB2.size
              go_wp2_with (at_builtin; refine list_push _ rfl _ _ rfl w1.heap.size _ _ rfl (hO2.alloc _) q w3'.heap.size _ rfl (Blk.new _ _ _) (by rw [hln]; omega) (by simp; omega) (by simp) ?_; intro g9 cap w6 hP)
              have hb6 := (hB2.alloc hs2 _).trans (hP.below (hO2.alloc _) (by simp; omega))
              have hO6 := hP.own
              rw [HQ.out, List.length_map, List.length_range] at hO6
              go_roundw
              case rel => exact ⟨y + 1, _, by omega, by go_num, rfl, by (try rw [List.length_map, List.length_range]); exact hO6, hb6⟩
              case measure => simp [intOf] <;> omega
        · obtain rfl : y = n := by omega
          have hG1 := hG.bel kp1 hBx
          obtain ⟨Am, cm, rfl⟩ := hO.val
          have hE := E1.of_owq hO (rowR_ok fun j _ => tmS_in _ _ _ _ _)
          rw [List.length_map, List.length_range] at hO hE ⊢
          have hbw : Below wr.heap.size wr (wr.alloc (.cells #[.slice Am y cm] 22)) := (Below.refl _ _).alloc (Nat.le_refl _) _
          have hEm2 := E1.below hE hbw
          have hlen : (rowsF y (tmS y f g) x).length ≤ 1048576 := by rw [rowsF_len]; omega
          have hbx := hBe.trans (hBx.mono hsz)
          have hsy := hbx.size
          go_wp2_with (at_builtin; refine list_pushG kp1 26 22 _ 24 Try.underlying26 rows_info (by omega) rfl _ rfl _ _ rfl w.heap.size vv _ rfl w1 hG (hBx.trans (hbw.mono hsx)) (.slice Am y cm) _ _ hEm2 (fun b hb => ⟨hb.1, by have := hb.2; simp; omega⟩) rfl wr.heap.size _ rfl (Blk.new _ _ _) hlen hsz (by simp) ?_; intro g9 cap w4 hG4 hB4 hW4 hg4 hg5)
          have hby := (hbx.trans (hbw.mono hsy)).trans hB4
          rw [rowsF_succ, rowsF_len] at hG4
          go_roundw
          case rel => exact ⟨x + 1, _, by omega, by go_num, rfl, by (try rw [rowsF_len]); exact hG4, hby⟩
          case measure => simp [intOf] <;> omega
    · obtain rfl : x = n := by omega
      go_wp2_with fail
      go_ret
      exact ⟨vv, rfl, hG.toL, hBe⟩
end Go.Proofs.Ytlhfjfpgoaiijaa
