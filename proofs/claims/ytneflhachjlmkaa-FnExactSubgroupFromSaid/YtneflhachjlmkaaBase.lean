
/- Words for memory that all walks of this seat share: a slice of int64 that reads as a list (Sl), one that the call owns (Ow), and small lemmas on them; no function of the program is walked here. -/
import Derived.WalkKit
import Derived.Maps.AppendAt
import Derived.Deep.AppendLies
import Derived.Deep.Draws
namespace Go.Proofs.Ytneflhachjlmkaa
open Go Go.RowKit

theorem hide {p : Prop} (h : p) : Hid p := h

/-- It returned v, and the world has but drawn. -/
def Qt (w : World) (v : Value) (e : Ending) (w' : World) : Prop := e = .returned v ∧ ∃ m, w' = w.drewN m
theorem Qt.same {w : World} {v : Value} : Qt w v (.returned v) w := ⟨rfl, 0, rfl⟩
theorem Qt.mk' {w w' : World} {v v' : Value} (m : Nat) (hw : w' = w.drewN m) (hv : v' = v) : Qt w v (.returned v') w' := ⟨by rw [hv], m, hw⟩
theorem Qt.d1 {w : World} {v v' : Value} {m : Nat} (hv : v' = v) : Qt w v (.returned v') (w.drewN m) := ⟨by rw [hv], m, rfl⟩
theorem Qt.d2 {w : World} {v v' : Value} {m k : Nat} (hv : v' = v) : Qt w v (.returned v') ((w.drewN m).drewN k) := ⟨by rw [hv], m + k, World.drewN_drewN _ _ _⟩
/-- It returned v; what lay before lies as it lay. -/
def Re (w : World) (v : Value) (e : Ending) (w' : World) : Prop := e = .returned v ∧ Below w.heap.size w w'
theorem Qt.re {w : World} {v : Value} {e : Ending} {w' : World} (h : Qt w v e w') : Re w v e w' := by
  obtain ⟨h1, m, rfl⟩ := h
  exact ⟨h1, ⟨rfl, rfl, rfl, Nat.le_refl _, fun _ _ => rfl⟩⟩
theorem bool_eq {a b : Bool} (h : a = b) : Value.bool a = Value.bool b := by rw [h]
theorem int_eq {k : IntKind} {a b : Int} (h : a = b) : Value.int k a = Value.int k b := by rw [h]

/-- Element k of a list, 0 beyond its end. -/
def gi (xs : List Int) (k : Nat) : Int := xs.getD k 0

def i64ok (x : Int) : Prop := -9223372036854775808 ≤ x ∧ x ≤ 9223372036854775807

/-- The slice value '.slice A n c' reads as the list xs in the world w; it lies in blocks below B. -/
structure Sl (w : World) (B : Nat) (A : Option Addr) (n c : Nat) (xs : List Int) : Prop where
  len : xs.length = n
  cap : n ≤ c
  rng : ∀ x ∈ xs, i64ok x
  at_ : 0 < n → ∃ b off, A = some ⟨b, off, none⟩ ∧ b < B ∧ ∀ k, k < n → w.cell? ⟨b, off + k, none⟩ = some (.int .i64 (gi xs k))
  nil_ : A = none → c = 0

/-- The slice value v is nil, or the call's own, from block B on, and holds just xs. -/
def Ow (w : World) (B : Nat) (v : Value) (xs : List Int) : Prop := w.ownsRow B 2 1 v xs.length (xs.map (Value.int .i64))

theorem gi_mem {xs : List Int} {k : Nat} (h : k < xs.length) : gi xs k ∈ xs := by
  unfold gi; rw [List.getD_eq_getElem?_getD, List.getElem?_eq_getElem h]; exact List.getElem_mem h
theorem gi_get {xs : List Int} {k : Nat} (h : k < xs.length) : xs[k]? = some (gi xs k) := by
  unfold gi; rw [List.getD_eq_getElem?_getD, List.getElem?_eq_getElem h]; rfl
theorem take_gi {xs : List Int} {k : Nat} (h : k < xs.length) : xs.take (k + 1) = xs.take k ++ [gi xs k] := by
  rw [List.take_succ_eq_append_getElem h]; unfold gi; rw [List.getD_eq_getElem?_getD, List.getElem?_eq_getElem h]; rfl
theorem drop_gi {xs : List Int} {k : Nat} (h : k < xs.length) : xs.drop k = gi xs k :: xs.drop (k + 1) := by
  rw [List.drop_eq_getElem_cons h]; unfold gi; rw [List.getD_eq_getElem?_getD, List.getElem?_eq_getElem h]; rfl

section
variable {w w' : World} {B B' : Nat} {A : Option Addr} {n c : Nat} {xs : List Int} {v : Value}
theorem Sl.keep (h : Sl w B A n c xs) (hk : ∀ p : Addr, p.block < B → w'.cell? p = w.cell? p) : Sl w' B A n c xs :=
  ⟨h.len, h.cap, h.rng, fun hn => by
    obtain ⟨b, off, e, hb, hc⟩ := h.at_ hn
    exact ⟨b, off, e, hb, fun k hkn => (hk _ hb).trans (hc k hkn)⟩, h.nil_⟩
theorem Sl.more (h : Sl w B A n c xs) (hB : B ≤ B') : Sl w B' A n c xs :=
  ⟨h.len, h.cap, h.rng, fun hn => by
    obtain ⟨b, off, e, hb, hc⟩ := h.at_ hn
    exact ⟨b, off, e, by omega, hc⟩, h.nil_⟩
theorem Sl.below (h : Sl w B A n c xs) (hb : Below B w w') : Sl w' B A n c xs := h.keep fun _ hp => hb.cell hp
theorem Sl.nil (w : World) (B : Nat) : Sl w B none 0 0 [] := ⟨rfl, by omega, by simp, fun h => absurd h (by omega), fun _ => rfl⟩
theorem Sl.drew (h : Sl w B A n c xs) : Sl w.drew B A n c xs := h.keep fun _ _ => rfl
theorem Sl.drewN (h : Sl w B A n c xs) (k : Nat) : Sl (w.drewN k) B A n c xs := h.keep fun _ _ => rfl
theorem Sl.alloc (h : Sl w B A n c xs) (hB : B ≤ w.heap.size) (o : Obj) : Sl (w.alloc o) B A n c xs := h.keep fun p hp => World.cell?_alloc_lt w o p (by omega)
theorem Sl.setCell (h : Sl w B A n c xs) {p : Addr} (hB : B ≤ p.block) (u : Value) : Sl (w.setCell p u) B A n c xs :=
  h.keep fun q hq => World.cell?_setCell_other w p q u (fun e => by subst e; omega)
theorem Sl.lt (h : Sl w B A n c xs) {k : Nat} (hk : k < n) : i64ok (gi xs k) := h.rng _ (gi_mem (by rw [h.len]; exact hk))
theorem Ow.sl (h : Ow w B v xs) (hr : ∀ x ∈ xs, i64ok x) : ∃ A c, v = .slice A xs.length c ∧ Sl w w.heap.size A xs.length c xs := by
  unfold Ow at h
  obtain ⟨h1, h2⟩ := h
  rcases h2 with ⟨rfl, h3⟩ | ⟨g, cap, cur, rfl, hg, hh, hn, hm, hs, hx⟩
  · have : xs = [] := by simpa using h3
    subst this
    exact ⟨none, 0, rfl, Sl.nil _ _⟩
  · refine ⟨some ⟨g, 0, none⟩, cap, rfl, rfl, hn, hr, fun hpos => ⟨g, 0, rfl, ?_, fun k hk => ?_⟩, fun h => by cases h⟩
    · rcases Nat.lt_or_ge g w.heap.size with h | h
      · exact h
      · rw [Array.getElem?_eq_none h] at hh; cases hh
    · have hl : g < w.heap.size := by
        rcases Nat.lt_or_ge g w.heap.size with h | h
        · exact h
        · rw [Array.getElem?_eq_none h] at hh; cases hh
      have hcur : cur[k]? = some (.int .i64 (gi xs k)) := by
        have h5 : (cur.toList.take (xs.length * 1))[k]? = (xs.map (Value.int .i64))[k]? := by rw [hx]
        rw [List.getElem?_take, if_pos (by omega), List.getElem?_map, gi_get hk] at h5
        simpa using h5
      simp [World.cell?, hh, hcur]
theorem Ow.drew (h : Ow w B v xs) : Ow w.drew B v xs := h
theorem Ow.drewN (h : Ow w B v xs) (k : Nat) : Ow (w.drewN k) B v xs := h
theorem Ow.nil (w : World) (B : Nat) : Ow w B (.slice none 0 0) [] := World.ownsRow_nil _ _ _ _
theorem Ow.alloc (h : Ow w B v xs) (o : Obj) : Ow (w.alloc o) B v xs := World.ownsRow.alloc h o
theorem Ow.grown (h : Ow w B v xs) {row : Option Nat} (hg : w.grownBy w' row) (hne : v.ownBlock = none ∨ v.ownBlock ≠ row) : Ow w' B v xs := World.ownsRow.kept h hg hne
/-- Two slices of the call's own lie in two blocks. -/
def Apart (v v' : Value) : Prop := ∀ b, v.ownBlock = some b → v'.ownBlock ≠ some b
theorem Apart.symm {v v' : Value} (h : Apart v v') : Apart v' v := fun b h1 h2 => h b h2 h1
theorem Ow.far (h : Ow w B v xs) {row : Option Nat} (hg : w.grownBy w' row) (hne : ∀ b, v.ownBlock = some b → row ≠ some b) : Ow w' B v xs :=
  h.grown hg (by
    cases e : v.ownBlock with
    | none => exact .inl rfl
    | some b => exact .inr (fun e' => hne b e e'.symm))
theorem Ow.lt (h : Ow w B v xs) : ∀ k, v.ownBlock = some k → B ≤ k ∧ k < w.heap.size := World.ownsRow.lt h
theorem Ow.less (h : Ow w B v xs) (hB : B' ≤ B) : Ow w B' v xs := by
  obtain ⟨h1, h2⟩ := h
  refine ⟨h1, ?_⟩
  rcases h2 with h2 | ⟨g, cap, cur, hv, hg, h3⟩
  · exact .inl h2
  · exact .inr ⟨g, cap, cur, hv, by omega, h3⟩
/-- What the call owns stays as it is where all below a later number stays. -/
theorem Ow.below (h : Ow w B v xs) (hb : Below w.heap.size w w') : Ow w' B v xs := by
  obtain ⟨h1, h2⟩ := h
  refine ⟨h1, ?_⟩
  rcases h2 with h2 | ⟨g, cap, cur, hv, hg, hh, h3⟩
  · exact .inl h2
  · have hl : g < w.heap.size := by
      rcases Nat.lt_or_ge g w.heap.size with h | h
      · exact h
      · rw [Array.getElem?_eq_none h] at hh; cases hh
    exact .inr ⟨g, cap, cur, hv, hg, (hb.block g hl).trans hh, h3⟩
theorem Ow.form (h : Ow w B v xs) : (v = .slice none 0 0 ∧ xs = []) ∨ ∃ g cap, v = .slice (some ⟨g, 0, none⟩) xs.length cap ∧ B ≤ g ∧ g < w.heap.size ∧ xs.length ≤ cap := by
  obtain ⟨h1, h2⟩ := h
  rcases h2 with ⟨h2, h3⟩ | ⟨g, cap, cur, hv, hg, hh, h3, _⟩
  · exact .inl ⟨h2, by simpa using h3⟩
  · have hl : g < w.heap.size := by
      rcases Nat.lt_or_ge g w.heap.size with h | h
      · exact h
      · rw [Array.getElem?_eq_none h] at hh; cases hh
    exact .inr ⟨g, cap, hv, hg, hl, h3⟩
theorem Ow.val (h : Ow w B v xs) : ∃ A c, v = .slice A xs.length c := by
  rcases h.form with ⟨rfl, rfl⟩ | ⟨g, cap, rfl, _⟩
  · exact ⟨none, 0, rfl⟩
  · exact ⟨_, cap, rfl⟩
theorem Ow.cell {g cap : Nat} (h : Ow w B (.slice (some ⟨g, 0, none⟩) n cap) xs) (hn : n = xs.length) {k : Nat} (hk : k < n) : w.cell? ⟨g, k, none⟩ = some (.int .i64 (gi xs k)) := by
  subst hn
  rw [World.ownsRow.cellAt h k (by omega), List.getElem?_map, gi_get hk]; rfl
theorem Ow.frozen {g cap : Nat} (h : Ow w B (.slice (some ⟨g, 0, none⟩) n cap) xs) (hn : n = xs.length) (k : Nat) : w.frozen? ⟨g, k, none⟩ = false := by
  subst hn
  exact World.ownsRow.frozenAt h k
theorem Ow.store {g cap : Nat} (h : Ow w B (.slice (some ⟨g, 0, none⟩) n cap) xs) (hn : n = xs.length) (k : Nat) (x : Int) :
    Ow (w.setCell ⟨g, k, none⟩ (.int .i64 x)) B (.slice (some ⟨g, 0, none⟩) n cap) (xs.set k x) := by
  subst hn
  have := (World.ownsRow.stored h k (.int .i64 x)).1
  unfold Ow
  simpa [List.map_set] using this
/-- A block that was just made and filled. -/
theorem Ow.made (w : World) (cs : Array Value) (hc : cs.toList = xs.map (Value.int .i64)) (hB : B ≤ w.heap.size) (hn : xs.length ≤ maxLen) :
    Ow (w.alloc (.cells cs 2)) B (.slice (some ⟨w.heap.size, 0, none⟩) xs.length xs.length) xs := by
  refine ⟨by simp, .inr ⟨w.heap.size, xs.length, cs, rfl, hB, heap_alloc_new w _, Nat.le_refl _, hn, ?_, ?_⟩⟩
  · have := congrArg List.length hc; simpa using this
  · rw [hc, List.take_of_length_le (by simp)]
end

/-- It returned a slice of its own that holds xs; what lay before lies as it lay. -/
def Mk (w : World) (xs : List Int) (e : Ending) (w' : World) : Prop := ∃ v, e = .returned v ∧ Ow w' w.heap.size v xs ∧ Below w.heap.size w w'

/-- A row of n cells, the first k of which hold the first elements of xs. -/
def Filled (cs : Array Value) (n k : Nat) (xs : List Int) : Prop := cs.size = n ∧ ∀ j, j < k → cs[j]? = some (.int .i64 (gi xs j))
theorem Filled.set_ {cs : Array Value} {n k : Nat} {xs : List Int} (h : Filled cs n k xs) (hk : k < n) : Filled (cs.setIfInBounds k (.int .i64 (gi xs k))) n (k + 1) xs := by
  refine ⟨by simp [h.1], fun j hj => ?_⟩
  rw [Array.getElem?_setIfInBounds]
  have := h.1
  by_cases e : k = j
  · subst e; simp [show k < cs.size by omega]
  · rw [if_neg e]; exact h.2 j (by omega)
theorem Filled.done {cs : Array Value} {n : Nat} {xs : List Int} (h : Filled cs n n xs) (hn : xs.length = n) : cs.toList = xs.map (Value.int .i64) := by
  apply List.ext_getElem?
  intro j
  by_cases hj : j < n
  · rw [List.getElem?_map, gi_get (by omega), Array.getElem?_toList, h.2 j hj]; rfl
  · rw [List.getElem?_eq_none (by simp [h.1]; omega), List.getElem?_eq_none (by simp; omega)]
theorem Filled.some_ {cs : Array Value} {n k j : Nat} {xs : List Int} (h : Filled cs n k xs) (hj : j < n) : ∃ u, cs[j]? = some u := ⟨cs[j]'(by rw [h.1]; exact hj), Array.getElem?_eq_getElem _⟩

theorem grownBy_drewN {a w : World} {row : Option Nat} (h : a.grownBy w row) (n : Nat) : a.grownBy (w.drewN n) row := ⟨h.os, h.tape, h.output, h.size, h.block⟩
theorem grownBy_drew {a w : World} {row : Option Nat} (h : a.grownBy w row) : a.grownBy w.drew row := ⟨h.os, h.tape, h.output, h.size, h.block⟩
theorem grownBy_alloc {a w : World} {row : Option Nat} (h : a.grownBy w row) (o : Obj) : a.grownBy (w.alloc o) row :=
  ⟨h.os, h.tape, h.output, Nat.le_trans h.size (by simp), fun i hi hne => (Below.heap_alloc w o i (Nat.lt_of_lt_of_le hi h.size)).trans (h.block i hi hne)⟩
theorem grownBy_setCell {a w : World} {g : Nat} (h : a.grownBy w (some g)) {p : Addr} (hp : p.block = g ∨ a.heap.size ≤ p.block) (u : Value) : a.grownBy (w.setCell p u) (some g) :=
  ⟨h.os, h.tape, h.output, by simpa [World.setCell] using h.size, fun i hi hne => (Below.heap_setCell w p u i (by
    rintro rfl
    rcases hp with hp | hp
    · exact hne (by rw [hp])
    · omega)).trans (h.block i hi hne)⟩
theorem grownBy_below {a w w' : World} {row : Option Nat} (h : a.grownBy w row) (hb : Below w.heap.size w w') : a.grownBy w' row :=
  ⟨hb.os.trans h.os, hb.tape.trans h.tape, hb.output.trans h.output, Nat.le_trans h.size hb.size, fun i hi hne => (hb.block i (Nat.lt_of_lt_of_le hi h.size)).trans (h.block i hi hne)⟩
theorem below_drewN {B : Nat} {a w : World} (h : Below B a w) (n : Nat) : Below B a (w.drewN n) := ⟨h.os, h.tape, h.output, h.size, h.block⟩

/-- q, q + 1, .. : n numbers. -/
def marks (q : Int) (n : Nat) : List Int := (List.range n).map fun (j : Nat) => q + (j : Int)
theorem marks_length (q : Int) (n : Nat) : (marks q n).length = n := by simp [marks]
def heldI (k : Int) : List Int → Int
  | [] => k
  | x :: xs => if x = k then heldI (k + 1) xs else -1
theorem marks_succ (q : Int) (n : Nat) : marks q (n + 1) = q :: marks (q + 1) n := by
  unfold marks
  rw [List.range_succ_eq_map, List.map_cons, List.map_map]
  congr 1
  · simp
  · apply List.map_congr_left; intro j _; simp; omega
theorem heldI_marks (n : Nat) : ∀ q : Int, heldI q (marks q n) = q + n := by
  induction n with
  | zero => intro q; simp [marks, heldI]
  | succ n ih => intro q; rw [marks_succ, heldI, if_pos rfl, ih]; omega
/-- The slice v, which held xs, now holds q, q + 1, ..; nothing else has turned. -/
def Mrk (w : World) (B : Nat) (v : Value) (xs : List Int) (q : Int) (e : Ending) (w' : World) : Prop :=
  e = .returned (.int .i64 (q + xs.length)) ∧ Ow w' B v (marks q xs.length) ∧ w.grownBy w' v.ownBlock
theorem mark_next {xs : List Int} {q : Int} {k : Nat} (hk : k < xs.length) : (marks q k ++ xs.drop k).set k (q + k) = marks q (k + 1) ++ xs.drop (k + 1) := by
  rw [List.set_append_right _ _ (by rw [marks_length]; omega), marks_length, Nat.sub_self, drop_gi hk, List.set_cons_zero]
  unfold marks
  rw [List.range_succ, List.map_append, List.append_assoc]; rfl

/-- Block g is just the cells cs of element type t, none frozen. -/
def Blk (w : World) (g : Nat) (t : TypeId) (cs : Array Value) : Prop := w.heap[g]? = some (.cells cs t (0, 0))
section
variable {w w' : World} {g B : Nat} {t : TypeId} {cs : Array Value}
theorem Blk.lt (h : Blk w g t cs) : g < w.heap.size := by
  rcases Nat.lt_or_ge g w.heap.size with hlt | hge
  · exact hlt
  · unfold Blk at h; rw [Array.getElem?_eq_none hge] at h; cases h
theorem Blk.cell (h : Blk w g t cs) (i : Nat) : w.cell? ⟨g, i, none⟩ = cs[i]? := cell_of_row w g i cs t (0, 0) h
theorem Blk.frozen (h : Blk w g t cs) (i : Nat) : w.frozen? ⟨g, i, none⟩ = false := frozen_of_row w g i cs t h
theorem Blk.both (h : Blk w g t cs) (i : Nat) (u : Value) (hu : cs[i]? = some u) : w.cell? ⟨g, i, none⟩ = some u ∧ w.frozen? ⟨g, i, none⟩ = false := ⟨(h.cell i).trans hu, h.frozen i⟩
theorem Blk.new (w : World) (t : TypeId) (cs : Array Value) : Blk (w.alloc (.cells cs t)) w.heap.size t cs := heap_alloc_new w _
theorem Blk.drew (h : Blk w g t cs) : Blk w.drew g t cs := h
theorem Blk.drewN (h : Blk w g t cs) (n : Nat) : Blk (w.drewN n) g t cs := h
theorem Blk.alloc (h : Blk w g t cs) (o : Obj) : Blk (w.alloc o) g t cs := (Below.heap_alloc w o g h.lt).trans h
theorem Blk.store (h : Blk w g t cs) (i : Nat) (u : Value) : Blk (w.setCell ⟨g, i, none⟩ u) g t (cs.setIfInBounds i u) := heap_setCell_same w g i cs t u h
theorem Blk.far (h : Blk w g t cs) {p : Addr} (hp : g ≠ p.block) (u : Value) : Blk (w.setCell p u) g t cs := (Below.heap_setCell w p u g hp).trans h
theorem Blk.below (h : Blk w g t cs) (hb : Below B w w') (hg : g < B) : Blk w' g t cs := (hb.block g hg).trans h
theorem Blk.all (h : Blk w g t cs) (hb : Below w.heap.size w w') : Blk w' g t cs := (hb.block g h.lt).trans h
theorem Blk.grown {row : Option Nat} (h : Blk w g t cs) (hb : w.grownBy w' row) (hg : row ≠ some g) : Blk w' g t cs := (hb.block g h.lt (fun e => hg e.symm)).trans h
/-- A block of another element type is no slice of int64. -/
theorem Ow.blk_ne {v : Value} {xs : List Int} (h : Ow w B v xs) (hg : Blk w g t cs) (hne : t ≠ 2) : v.ownBlock ≠ some g := by
  rcases h.2 with ⟨rfl, _⟩ | ⟨g', cap, cur, rfl, _, hh, _⟩
  · simp [Value.ownBlock]
  · intro he
    have : g' = g := by simpa [Value.ownBlock] using he
    subst this
    unfold Blk at hg
    rw [hg] at hh
    injection hh with hh
    injection hh with _ ht
    exact hne ht
end
/-- A store into a block that holds no slice of int64 leaves such a slice as it is. -/
theorem Ow.setCell {w : World} {B g : Nat} {t : TypeId} {cs : Array Value} {v : Value} {xs : List Int} (h : Ow w B v xs) (hg : Blk w g t cs) (hne : t ≠ 2) (i : Nat) (u : Value) :
    Ow (w.setCell ⟨g, i, none⟩ u) B v xs :=
  h.far (row := some g) ⟨rfl, rfl, rfl, by simp [World.setCell], fun k _ hk => Below.heap_setCell _ _ _ _ (fun e => hk (by rw [e]))⟩ (fun b hb e => h.blk_ne hg hne (by rw [hb]; injection e with e; rw [e]))

theorem Blk.new' (w : World) (t : TypeId) (cs : Array Value) (g : Nat) (hg : w.heap.size = g) : Blk (w.alloc (.cells cs t)) g t cs := hg ▸ Blk.new w t cs
theorem Ow.made' {xs : List Int} {B : Nat} (w : World) (cs : Array Value) (g n : Nat) (hg : w.heap.size = g) (hc : cs.toList = xs.map (Value.int .i64)) (hB : B ≤ g) (hl : xs.length = n) (hn : n ≤ maxLen) :
    Ow (w.alloc (.cells cs 2)) B (.slice (some ⟨g, 0, none⟩) n n) xs := by
  subst hg; subst hl; exact Ow.made w cs hc hB hn

theorem wr64 (n : Int) (h : i64ok n) : IntKind.i64.wrap n = n := IntWalk.i64_in n h
theorem wrap_eq (n : Int) : IntKind.i64.wrap n = wrap64 n := by rw [IntKind.wrap_i64]; unfold wrap64; omega
theorem wrap64_ok (n : Int) (h : i64ok n) : wrap64 n = n := IntWalk.wrap64_in n h

/-- A struct of three cells stored whole over a block of three cells. -/
def put3 (w : World) (g : Nat) (x y z : Value) : World := ((w.setCell ⟨g, 0, none⟩ x).setCell ⟨g, 1, none⟩ y).setCell ⟨g, 2, none⟩ z
section
variable {w : World} {g : Nat} {t : TypeId} {a b c x y z : Value}
theorem put3_blk (h : Blk w g t #[a, b, c]) : Blk (put3 w g x y z) g t #[x, y, z] := ((h.store 0 x).store 1 y).store 2 z
theorem put3_own {B : Nat} {v : Value} {xs : List Int} (hb : Blk w g t #[a, b, c]) (hne : t ≠ 2) (h : Ow w B v xs) : Ow (put3 w g x y z) B v xs :=
  ((h.setCell hb hne 0 x).setCell (hb.store 0 x) hne 1 y).setCell ((hb.store 0 x).store 1 y) hne 2 z
theorem put3_far {g' : Nat} {t' : TypeId} {cs : Array Value} (h : Blk w g' t' cs) (hne : g' ≠ g) : Blk (put3 w g x y z) g' t' cs := ((h.far hne x).far hne y).far hne z
theorem put3_below {B : Nat} {w0 : World} (h : Below B w0 w) (hB : B ≤ g) : Below B w0 (put3 w g x y z) := ((h.setCell hB x).setCell hB y).setCell hB z
theorem put3_size : (put3 w g x y z).heap.size = w.heap.size := by simp [put3, World.setCell]
end
end Go.Proofs.Ytneflhachjlmkaa
