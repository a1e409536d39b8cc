
/- Rings, plain: cubes, duals, the first fault; no function of the program is walked here. -/
import Derived.Test.YteobaodabjdcaaaNW1
import Derived.Deep.Slices
namespace Go.Proofs.Yteobaodabjdcaaa
open Go Go.RowKit
set_option linter.unusedVariables false

/-! ### the first of several -/
def fs {α : Type} (n : Nat) (f : Nat → Option α) : Option α := (List.range n).findSome? f
section
variable {α : Type} {f : Nat → Option α} {n k : Nat}
theorem fs_zero : fs 0 f = none := rfl
theorem fs_succ : fs (n + 1) f = (fs n f).or (f n) := by
  unfold fs; rw [List.range_succ, List.findSome?_append]; simp
theorem fs_next (h : fs k f = none) (h2 : f k = none) : fs (k + 1) f = none := by rw [fs_succ, h, h2]; rfl
theorem fs_stop {v : α} (h : fs k f = none) (h2 : f k = some v) (hk : k < n) : fs n f = some v := by
  induction n with
  | zero => omega
  | succ n ih =>
    rw [fs_succ]
    by_cases e : k = n
    · subst e; rw [h, h2]; rfl
    · rw [ih (by omega)]; rfl
theorem fs_none (h : fs n f = none) (hk : k < n) : f k = none := by
  induction n with
  | zero => omega
  | succ n ih =>
    rw [fs_succ] at h
    have h1 := Option.or_eq_none_iff.1 h
    by_cases e : k = n
    · subst e; exact h1.2
    · exact ih h1.1 (by omega)
end

theorem getD_of {α : Type} {xs : List α} {k : Nat} {x d : α} (h : xs[k]? = some x) : xs.getD k d = x := by rw [List.getD_eq_getElem?_getD, h]; rfl
/-! ### tables -/
abbrev Tb := List (List (List Int))
def t3 (t : Tb) (i j k : Nat) : Int := gi ((t.getD i []).getD j []) k
structure IsCb (t : Tb) : Prop where
  pos : 1 ≤ t.length
  le : t.length ≤ 16
  row : ∀ m ∈ t, m.length = t.length ∧ ∀ r ∈ m, r.length = t.length ∧ ∀ x ∈ r, 0 ≤ x ∧ x ≤ 1000
open Classical in
noncomputable def cbB (t : Tb) : Bool := decide (IsCb t)
theorem cbB_t {t : Tb} (h : IsCb t) : cbB t = true := by simp [cbB, h]
theorem cbB_f {t : Tb} (h : ¬ IsCb t) : cbB t = false := by simp [cbB, h]
theorem cbB_iff {t : Tb} : cbB t = true ↔ IsCb t := by simp [cbB]

/-- Where a cube lies. -/
structure View (w : World) (B n b off : Nat) (b1 o1 c1 : Nat → Nat) (b2 o2 c2 : Nat → Nat → Nat) (f : Nat → Nat → Nat → Int) : Prop where
  hb : b < B
  h1 : ∀ i, i < n → w.cell? ⟨b, off + i, none⟩ = some (.slice (some ⟨b1 i, o1 i, none⟩) n (c1 i)) ∧ b1 i < B
  h2 : ∀ i j, i < n → j < n → w.cell? ⟨b1 i, o1 i + j, none⟩ = some (.slice (some ⟨b2 i j, o2 i j, none⟩) n (c2 i j)) ∧ b2 i j < B
  h3 : ∀ i j k, i < n → j < n → k < n → w.cell? ⟨b2 i j, o2 i j + k, none⟩ = some (.int .i64 (f i j k))
theorem View.keep {w w' : World} {B B' n b off : Nat} {b1 o1 c1 : Nat → Nat} {b2 o2 c2 : Nat → Nat → Nat} {f : Nat → Nat → Nat → Int} (h : View w B n b off b1 o1 c1 b2 o2 c2 f) (hb : Below B w w') (hB : B ≤ B') :
    View w' B' n b off b1 o1 c1 b2 o2 c2 f :=
  ⟨Nat.lt_of_lt_of_le h.hb hB, fun i hi => ⟨(hb.cell (p := ⟨b, off + i, none⟩) h.hb).trans (h.h1 i hi).1, Nat.lt_of_lt_of_le (h.h1 i hi).2 hB⟩,
   fun i j hi hj => ⟨(hb.cell (p := ⟨b1 i, o1 i + j, none⟩) (h.h1 i hi).2).trans (h.h2 i j hi hj).1, Nat.lt_of_lt_of_le (h.h2 i j hi hj).2 hB⟩,
   fun i j k hi hj hk => (hb.cell (p := ⟨b2 i j, o2 i j + k, none⟩) (h.h2 i j hi hj).2).trans (h.h3 i j k hi hj hk)⟩
theorem View.le {w w' : World} {B n b off : Nat} {b1 o1 c1 : Nat → Nat} {b2 o2 c2 : Nat → Nat → Nat} {f : Nat → Nat → Nat → Int} (h : View w B n b off b1 o1 c1 b2 o2 c2 f) (hb : Below B w w') : View w' B n b off b1 o1 c1 b2 o2 c2 f := h.keep hb (Nat.le_refl _)
theorem view_of {w : World} {B : Nat} {A : Option Addr} {n c : Nat} {t : Tb} (h : Sl3 w B A n c t) (hpos : 0 < n) (hrow : ∀ m ∈ t, m.length = n ∧ ∀ r ∈ m, r.length = n) :
    ∃ b off b1 o1 c1 b2 o2 c2, A = some ⟨b, off, none⟩ ∧ View w B n b off b1 o1 c1 b2 o2 c2 (t3 t) := by
  obtain ⟨b, off, rfl, hb⟩ := RdL.addr h hpos
  have hn := h.len
  have k1 : ∀ i, i < n → ∃ y : Nat × Nat × Nat, w.cell? ⟨b, off + i, none⟩ = some (.slice (some ⟨y.1, y.2.1, none⟩) n y.2.2) ∧ y.1 < B ∧ Sl2 w B (some ⟨y.1, y.2.1, none⟩) n y.2.2 (t.getD i []) := by
    intro i hi
    obtain ⟨m, hm⟩ := get_at (xs := t) (k := i) (by omega)
    obtain ⟨A', n', c', h1, h2⟩ := h.row hm
    have hml := (hrow m (get_mem hm)).1
    have hl := h2.len
    obtain rfl : n' = n := by omega
    obtain ⟨b', off', rfl, hb'⟩ := RdL.addr h2 hpos
    refine ⟨(b', off', c'), h1, hb', ?_⟩
    rw [getD_of hm]
    exact h2
  obtain ⟨y, hy⟩ := Go.Deep.choose_lt k1
  have k2 : ∀ i, i < n → ∃ z : Nat → Nat × Nat × Nat, ∀ j, j < n → w.cell? ⟨(y i).1, (y i).2.1 + j, none⟩ = some (.slice (some ⟨(z j).1, (z j).2.1, none⟩) n (z j).2.2) ∧ (z j).1 < B ∧ Sl w B (some ⟨(z j).1, (z j).2.1, none⟩) n (z j).2.2 ((t.getD i []).getD j []) := by
    intro i hi
    obtain ⟨m, hm⟩ := get_at (xs := t) (k := i) (by omega)
    have hS := (hy i hi).2.2
    rw [getD_of hm] at hS ⊢
    have hml := (hrow m (get_mem hm))
    refine Go.Deep.choose_lt (α := Nat × Nat × Nat) (p := fun j z => w.cell? ⟨(y i).1, (y i).2.1 + j, none⟩ = some (.slice (some ⟨z.1, z.2.1, none⟩) n z.2.2) ∧ z.1 < B ∧ Sl w B (some ⟨z.1, z.2.1, none⟩) n z.2.2 (m.getD j [])) fun j hj => ?_
    obtain ⟨r, hr⟩ := get_at (xs := m) (k := j) (by omega)
    obtain ⟨A', n', c', h1, h2⟩ := hS.row hr
    have hrl := hml.2 r (get_mem hr)
    have hl := h2.len
    obtain rfl : n' = n := by omega
    obtain ⟨b', off', rfl, hb'⟩ := Sl.addr h2 hpos
    refine ⟨(b', off', c'), h1, hb', ?_⟩
    rw [getD_of hr]
    exact h2
  obtain ⟨z, hz⟩ := Go.Deep.choose_lt k2
  exact ⟨b, off, fun i => (y i).1, fun i => (y i).2.1, fun i => (y i).2.2, fun i j => (z i j).1, fun i j => (z i j).2.1, fun i j => (z i j).2.2, rfl,
    ⟨hb, fun i hi => ⟨(hy i hi).1, (hy i hi).2.1⟩, fun i j hi hj => ⟨(hz i hi j hj).1, (hz i hi j hj).2.1⟩, fun i j k hi hj hk => (hz i hi j hj).2.2.row hk⟩⟩
theorem IsCb.rng {t : Tb} (h : IsCb t) {i j k : Nat} (hi : i < t.length) (hj : j < t.length) (hk : k < t.length) : 0 ≤ t3 t i j k ∧ t3 t i j k ≤ 1000 := by
  obtain ⟨m, hm⟩ := get_at (xs := t) (k := i) hi
  have h1 := h.row m (get_mem hm)
  obtain ⟨r, hr⟩ := get_at (xs := m) (k := j) (by omega)
  have h2 := h1.2 r (get_mem hr)
  unfold t3
  rw [getD_of hm, getD_of hr]
  exact h2.2 _ (gi_mem (by omega))

/-! ### duals -/
def duSt (f : Nat → Int) : Nat → Option Int
  | 0 => some (-1)
  | j + 1 => match duSt f j with
    | none => none
    | some o => if f j = 0 then some o else if f j = 1 ∧ o < 0 then some j else none
def duF (f : Nat → Int) (n : Nat) : Int := (duSt f n).getD (-1)
theorem duSt_dead {f : Nat → Int} {k n : Nat} (h : duSt f k = none) (hk : k ≤ n) : duSt f n = none := by
  induction n with
  | zero => (have e : k = 0 := by omega); rw [e] at h; exact h
  | succ n ih =>
    by_cases e : k = n + 1
    · subst e; exact h
    · simp [duSt, ih (by omega)]
theorem duSt_rng {f : Nat → Int} {n : Nat} {o : Int} (h : duSt f n = some o) : -1 ≤ o ∧ o < n := by
  induction n generalizing o with
  | zero => simp [duSt] at h; omega
  | succ n ih =>
    unfold duSt at h
    split at h
    · cases h
    · rename_i o' h'
      have := ih h'
      split at h
      · simp at h; omega
      · split at h
        · simp at h; omega
        · cases h
theorem duF_rng (f : Nat → Int) (n : Nat) : -1 ≤ duF f n ∧ duF f n < n ∨ duF f n = -1 := by
  unfold duF
  cases h : duSt f n with
  | none => right; rfl
  | some o => left; exact duSt_rng h
def du (t : Tb) (i : Nat) : Int := duF (fun j => t3 t i j 0) t.length
theorem du_rng (t : Tb) (i : Nat) : -1 ≤ du t i ∧ (du t i < t.length ∨ du t i = -1) := by
  rcases duF_rng (fun j => t3 t i j 0) t.length with h | h
  · exact ⟨h.1, .inl h.2⟩
  · exact ⟨by unfold du; omega, .inr h⟩
theorem du_lt {t : Tb} {i : Nat} (h : 0 ≤ du t i) : du t i < t.length := by rcases (du_rng t i).2 with h' | h' <;> omega

/-! ### faults -/
def dl (i k : Nat) : Int := if i = k then 1 else 0
def unitAt (t : Tb) (i k : Nat) : Option (List Int) := if t3 t 0 i k ≠ dl i k ∨ t3 t i 0 k ≠ dl i k then some [0, i, k] else none
def unitF (t : Tb) : Option (List Int) := fs t.length fun i => fs t.length fun k => unitAt t i k
def dfB (t : Tb) (i : Nat) : Bool := decide (du t i < 0 ∨ du t (du t i).toNat ≠ i)
def dfAt (t : Tb) (i : Nat) : Option Int := if dfB t i = true then some (i : Int) else none
def dfF (t : Tb) : Option Int := fs t.length (dfAt t)
def turnAt (t : Tb) (i j k : Nat) : Option (List Int) := if t3 t i j k ≠ t3 t (du t i).toNat k j ∨ t3 t i j k ≠ t3 t k (du t j).toNat i then some [2, i, j, k] else none
def turnF (t : Tb) : Option (List Int) := fs t.length fun i => fs t.length fun j => fs t.length fun k => turnAt t i j k
def sm (f : Nat → Int) : Nat → Int
  | 0 => 0
  | n + 1 => sm f n + f n
theorem sm_rng {f : Nat → Int} {n : Nat} (h : ∀ k, k < n → 0 ≤ f k ∧ f k ≤ 1000000) : 0 ≤ sm f n ∧ sm f n ≤ 1000000 * (n : Int) := by
  induction n with
  | zero => simp [sm]
  | succ n ih =>
    have h1 := ih fun k hk => h k (by omega)
    have h2 := h n (by omega)
    simp only [sm]
    omega
def brL (t : Tb) (i j k l : Nat) : Nat → Int := sm fun m => t3 t i j m * t3 t m k l
def brR (t : Tb) (i j k l : Nat) : Nat → Int := sm fun m => t3 t j k m * t3 t i m l
def brAt (t : Tb) (i j k l : Nat) : Option (List Int) := if brL t i j k l t.length ≠ brR t i j k l t.length then some [3, i, j, k, l] else none
def brF (t : Tb) : Option (List Int) := fs t.length fun i => fs t.length fun j => fs t.length fun k => fs t.length fun l => brAt t i j k l
def flt (t : Tb) : Option (List Int) := match unitF t with
  | some x => some x
  | none => match dfF t with
    | some i => some [1, i]
    | none => match turnF t with
      | some x => some x
      | none => brF t
theorem mul_1000 {a b : Int} (h : 0 ≤ a ∧ a ≤ 1000) (k : 0 ≤ b ∧ b ≤ 1000) : 0 ≤ a * b ∧ a * b ≤ 1000000 :=
  ⟨Int.mul_nonneg h.1 k.1, Int.le_trans (Int.mul_le_mul h.2 k.2 k.1 (by omega)) (by omega)⟩
theorem dfB_t {t : Tb} {i : Nat} (h : dfF t = none) (hi : i < t.length) : 0 ≤ du t i ∧ du t i < t.length ∧ du t (du t i).toNat = i := by
  have h1 := fs_none h hi
  unfold dfAt at h1
  split at h1
  · cases h1
  · rename_i h2
    simp only [dfB, decide_eq_true_eq] at h2
    have h3 : 0 ≤ du t i := by omega
    exact ⟨h3, du_lt h3, Decidable.byContradiction fun hn => h2 (.inr hn)⟩

/-- It returned no list, or one of its own. -/
def MkO (w : World) (o : Option (List Int)) (e : Ending) (w' : World) : Prop :=
  (o = none → e = .returned (.slice none 0 0)) ∧ (∀ xs, o = some xs → ∃ g cap, e = .returned (.slice (some ⟨g, 0, none⟩) xs.length cap) ∧ Ow w' w.heap.size (.slice (some ⟨g, 0, none⟩) xs.length cap) xs) ∧ Below w.heap.size w w'
theorem MkO.no {w w' : World} (h : Below w.heap.size w w') : MkO w none (.returned (.slice none 0 0)) w' := ⟨fun _ => rfl, fun _ h => (by cases h), h⟩
/-- A block that holds integers. -/
theorem mkO_new {w w0 w' : World} {xs : List Int} {cs : Array Value} {g n : Nat} (hbl : Blk w' g 2 cs) (hc : cs.toList = xs.map (Value.int .i64)) (hn : xs.length = n) (hg : w.heap.size ≤ g) (hm : n ≤ maxLen) (hb : Below w.heap.size w w') :
    MkO w (some xs) (.returned (.slice (some ⟨g, 0, none⟩) n n)) w' := by
  subst hn
  refine ⟨fun h => (by cases h), fun ys h => ?_, hb⟩
  injection h with h
  subst h
  refine ⟨g, xs.length, rfl, by simp, .inr ⟨g, xs.length, cs, rfl, hg, hbl, Nat.le_refl _, hm, ?_, ?_⟩⟩
  · have := congrArg List.length hc; simpa using this
  · rw [hc, List.take_of_length_le (by simp)]
end Go.Proofs.Yteobaodabjdcaaa
