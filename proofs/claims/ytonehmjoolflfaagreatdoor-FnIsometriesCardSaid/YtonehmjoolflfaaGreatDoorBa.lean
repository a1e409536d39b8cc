
/- Words for memory that all walks of this seat share: a slice of int64 that reads as a list (Sl), one that the call owns (Ow), and small lemmas on them; no function of the program is walked here. append of one element to a row of int64 of the call's own: at a plain list of operations and at a step of a region that draws its order. A region that draws its order, walked once in one given order: what only reads is taken as soon as it may come up, under a condition S on the world; operations from number z on wait for all that only read, so S need not outlive them. Regions that draw their order, where the world only draws, or only grows: the world is a new name behind each call. Regions that draw their order where two operations that make memory may come up at once: every order is walked; a tree tells them. The walks of the small functions of package laws that compare, copy, mark and hold slices of int64. -/
import Derived.WalkKit
import Derived.Maps.AppendAt
import Derived.Deep.AppendLies
import Derived.Deep.Draws
import Derived.Test.YtonehmjoolflfaaGreatDoorChecked
import Derived.OrdersHeld
import Derived.Deep.RegionHeld
import Derived.WalkSpells
import Derived.Deep.QuietTactic
import Derived.BigQuiet
import Derived.Outline
namespace Go.Proofs.YtonehmjoolflfaaGreatDoor
open Go Go.RowKit

theorem hide {p : Prop} (h : p) : Hid p := h

/-- It returned v, and the world has but drawn. -/
def Qt (w : World) (v : Value) (e : Ending) (w' : World) : Prop := e = .returned v ∧ ∃ m, w' = w.drewN m
theorem Qt.same {w : World} {v : Value} : Qt w v (.returned v) w := ⟨rfl, 0, rfl⟩
theorem Qt.mk' {w w' : World} {v v' : Value} (m : Nat) (hw : w' = w.drewN m) (hv : v' = v) : Qt w v (.returned v') w' := ⟨by rw [hv], m, hw⟩
theorem Qt.d1 {w : World} {v v' : Value} {m : Nat} (hv : v' = v) : Qt w v (.returned v') (w.drewN m) := ⟨by rw [hv], m, rfl⟩
theorem Qt.d2 {w : World} {v v' : Value} {m k : Nat} (hv : v' = v) : Qt w v (.returned v') ((w.drewN m).drewN k) := ⟨by rw [hv], m + k, World.drewN_drewN _ _ _⟩
/-- It returned v; what lay before lies as it lay. -/
def Re (w : World) (v : Value) (e : Ending) (w' : World) : Prop := e = .returned v ∧ Below w.heap.size w w'
theorem Qt.re {w : World} {v : Value} {e : Ending} {w' : World} (h : Qt w v e w') : Re w v e w' := by
  obtain ⟨h1, m, rfl⟩ := h
  exact ⟨h1, ⟨rfl, rfl, rfl, Nat.le_refl _, fun _ _ => rfl⟩⟩
theorem bool_eq {a b : Bool} (h : a = b) : Value.bool a = Value.bool b := by rw [h]
theorem int_eq {k : IntKind} {a b : Int} (h : a = b) : Value.int k a = Value.int k b := by rw [h]

/-- Element k of a list, 0 beyond its end. -/
def gi (xs : List Int) (k : Nat) : Int := xs.getD k 0

def i64ok (x : Int) : Prop := -9223372036854775808 ≤ x ∧ x ≤ 9223372036854775807

/-- The slice value '.slice A n c' reads as the list xs in the world w; it lies in blocks below B. -/
structure Sl (w : World) (B : Nat) (A : Option Addr) (n c : Nat) (xs : List Int) : Prop where
  len : xs.length = n
  cap : n ≤ c
  rng : ∀ x ∈ xs, i64ok x
  at_ : 0 < n → ∃ b off, A = some ⟨b, off, none⟩ ∧ b < B ∧ ∀ k, k < n → w.cell? ⟨b, off + k, none⟩ = some (.int .i64 (gi xs k))
  nil_ : A = none → c = 0

/-- The slice value v is nil, or the call's own, from block B on, and holds just xs. -/
def Ow (w : World) (B : Nat) (v : Value) (xs : List Int) : Prop := w.ownsRow B 2 1 v xs.length (xs.map (Value.int .i64))

theorem gi_mem {xs : List Int} {k : Nat} (h : k < xs.length) : gi xs k ∈ xs := by
  unfold gi; rw [List.getD_eq_getElem?_getD, List.getElem?_eq_getElem h]; exact List.getElem_mem h
theorem gi_get {xs : List Int} {k : Nat} (h : k < xs.length) : xs[k]? = some (gi xs k) := by
  unfold gi; rw [List.getD_eq_getElem?_getD, List.getElem?_eq_getElem h]; rfl
theorem take_gi {xs : List Int} {k : Nat} (h : k < xs.length) : xs.take (k + 1) = xs.take k ++ [gi xs k] := by
  rw [List.take_succ_eq_append_getElem h]; unfold gi; rw [List.getD_eq_getElem?_getD, List.getElem?_eq_getElem h]; rfl
theorem drop_gi {xs : List Int} {k : Nat} (h : k < xs.length) : xs.drop k = gi xs k :: xs.drop (k + 1) := by
  rw [List.drop_eq_getElem_cons h]; unfold gi; rw [List.getD_eq_getElem?_getD, List.getElem?_eq_getElem h]; rfl

section
variable {w w' : World} {B B' : Nat} {A : Option Addr} {n c : Nat} {xs : List Int} {v : Value}
theorem Sl.keep (h : Sl w B A n c xs) (hk : ∀ p : Addr, p.block < B → w'.cell? p = w.cell? p) : Sl w' B A n c xs :=
  ⟨h.len, h.cap, h.rng, fun hn => by
    obtain ⟨b, off, e, hb, hc⟩ := h.at_ hn
    exact ⟨b, off, e, hb, fun k hkn => (hk _ hb).trans (hc k hkn)⟩, h.nil_⟩
theorem Sl.more (h : Sl w B A n c xs) (hB : B ≤ B') : Sl w B' A n c xs :=
  ⟨h.len, h.cap, h.rng, fun hn => by
    obtain ⟨b, off, e, hb, hc⟩ := h.at_ hn
    exact ⟨b, off, e, by omega, hc⟩, h.nil_⟩
theorem Sl.below (h : Sl w B A n c xs) (hb : Below B w w') : Sl w' B A n c xs := h.keep fun _ hp => hb.cell hp
theorem Sl.nil (w : World) (B : Nat) : Sl w B none 0 0 [] := ⟨rfl, by omega, by simp, fun h => absurd h (by omega), fun _ => rfl⟩
theorem Sl.drew (h : Sl w B A n c xs) : Sl w.drew B A n c xs := h.keep fun _ _ => rfl
theorem Sl.drewN (h : Sl w B A n c xs) (k : Nat) : Sl (w.drewN k) B A n c xs := h.keep fun _ _ => rfl
theorem Sl.alloc (h : Sl w B A n c xs) (hB : B ≤ w.heap.size) (o : Obj) : Sl (w.alloc o) B A n c xs := h.keep fun p hp => World.cell?_alloc_lt w o p (by omega)
theorem Sl.setCell (h : Sl w B A n c xs) {p : Addr} (hB : B ≤ p.block) (u : Value) : Sl (w.setCell p u) B A n c xs :=
  h.keep fun q hq => World.cell?_setCell_other w p q u (fun e => by subst e; omega)
theorem Sl.lt (h : Sl w B A n c xs) {k : Nat} (hk : k < n) : i64ok (gi xs k) := h.rng _ (gi_mem (by rw [h.len]; exact hk))
theorem Ow.sl (h : Ow w B v xs) (hr : ∀ x ∈ xs, i64ok x) : ∃ A c, v = .slice A xs.length c ∧ Sl w w.heap.size A xs.length c xs := by
  unfold Ow at h
  obtain ⟨h1, h2⟩ := h
  rcases h2 with ⟨rfl, h3⟩ | ⟨g, cap, cur, rfl, hg, hh, hn, hm, hs, hx⟩
  · have : xs = [] := by simpa using h3
    subst this
    exact ⟨none, 0, rfl, Sl.nil _ _⟩
  · refine ⟨some ⟨g, 0, none⟩, cap, rfl, rfl, hn, hr, fun hpos => ⟨g, 0, rfl, ?_, fun k hk => ?_⟩, fun h => by cases h⟩
    · rcases Nat.lt_or_ge g w.heap.size with h | h
      · exact h
      · rw [Array.getElem?_eq_none h] at hh; cases hh
    · have hl : g < w.heap.size := by
        rcases Nat.lt_or_ge g w.heap.size with h | h
        · exact h
        · rw [Array.getElem?_eq_none h] at hh; cases hh
      have hcur : cur[k]? = some (.int .i64 (gi xs k)) := by
        have h5 : (cur.toList.take (xs.length * 1))[k]? = (xs.map (Value.int .i64))[k]? := by rw [hx]
        rw [List.getElem?_take, if_pos (by omega), List.getElem?_map, gi_get hk] at h5
        simpa using h5
      simp [World.cell?, hh, hcur]
theorem Ow.drew (h : Ow w B v xs) : Ow w.drew B v xs := h
theorem Ow.drewN (h : Ow w B v xs) (k : Nat) : Ow (w.drewN k) B v xs := h
theorem Ow.nil (w : World) (B : Nat) : Ow w B (.slice none 0 0) [] := World.ownsRow_nil _ _ _ _
theorem Ow.alloc (h : Ow w B v xs) (o : Obj) : Ow (w.alloc o) B v xs := World.ownsRow.alloc h o
theorem Ow.grown (h : Ow w B v xs) {row : Option Nat} (hg : w.grownBy w' row) (hne : v.ownBlock = none ∨ v.ownBlock ≠ row) : Ow w' B v xs := World.ownsRow.kept h hg hne
/-- Two slices of the call's own lie in two blocks. -/
def Apart (v v' : Value) : Prop := ∀ b, v.ownBlock = some b → v'.ownBlock ≠ some b
theorem Apart.symm {v v' : Value} (h : Apart v v') : Apart v' v := fun b h1 h2 => h b h2 h1
theorem Ow.far (h : Ow w B v xs) {row : Option Nat} (hg : w.grownBy w' row) (hne : ∀ b, v.ownBlock = some b → row ≠ some b) : Ow w' B v xs :=
  h.grown hg (by
    cases e : v.ownBlock with
    | none => exact .inl rfl
    | some b => exact .inr (fun e' => hne b e e'.symm))
theorem Ow.lt (h : Ow w B v xs) : ∀ k, v.ownBlock = some k → B ≤ k ∧ k < w.heap.size := World.ownsRow.lt h
theorem Ow.less (h : Ow w B v xs) (hB : B' ≤ B) : Ow w B' v xs := by
  obtain ⟨h1, h2⟩ := h
  refine ⟨h1, ?_⟩
  rcases h2 with h2 | ⟨g, cap, cur, hv, hg, h3⟩
  · exact .inl h2
  · exact .inr ⟨g, cap, cur, hv, by omega, h3⟩
/-- What the call owns stays as it is where all below a later number stays. -/
theorem Ow.below (h : Ow w B v xs) (hb : Below w.heap.size w w') : Ow w' B v xs := by
  obtain ⟨h1, h2⟩ := h
  refine ⟨h1, ?_⟩
  rcases h2 with h2 | ⟨g, cap, cur, hv, hg, hh, h3⟩
  · exact .inl h2
  · have hl : g < w.heap.size := by
      rcases Nat.lt_or_ge g w.heap.size with h | h
      · exact h
      · rw [Array.getElem?_eq_none h] at hh; cases hh
    exact .inr ⟨g, cap, cur, hv, hg, (hb.block g hl).trans hh, h3⟩
theorem Ow.form (h : Ow w B v xs) : (v = .slice none 0 0 ∧ xs = []) ∨ ∃ g cap, v = .slice (some ⟨g, 0, none⟩) xs.length cap ∧ B ≤ g ∧ g < w.heap.size ∧ xs.length ≤ cap := by
  obtain ⟨h1, h2⟩ := h
  rcases h2 with ⟨h2, h3⟩ | ⟨g, cap, cur, hv, hg, hh, h3, _⟩
  · exact .inl ⟨h2, by simpa using h3⟩
  · have hl : g < w.heap.size := by
      rcases Nat.lt_or_ge g w.heap.size with h | h
      · exact h
      · rw [Array.getElem?_eq_none h] at hh; cases hh
    exact .inr ⟨g, cap, hv, hg, hl, h3⟩
theorem Ow.val (h : Ow w B v xs) : ∃ A c, v = .slice A xs.length c := by
  rcases h.form with ⟨rfl, rfl⟩ | ⟨g, cap, rfl, _⟩
  · exact ⟨none, 0, rfl⟩
  · exact ⟨_, cap, rfl⟩
theorem Ow.cell {g cap : Nat} (h : Ow w B (.slice (some ⟨g, 0, none⟩) n cap) xs) (hn : n = xs.length) {k : Nat} (hk : k < n) : w.cell? ⟨g, k, none⟩ = some (.int .i64 (gi xs k)) := by
  subst hn
  rw [World.ownsRow.cellAt h k (by omega), List.getElem?_map, gi_get hk]; rfl
theorem Ow.frozen {g cap : Nat} (h : Ow w B (.slice (some ⟨g, 0, none⟩) n cap) xs) (hn : n = xs.length) (k : Nat) : w.frozen? ⟨g, k, none⟩ = false := by
  subst hn
  exact World.ownsRow.frozenAt h k
theorem Ow.store {g cap : Nat} (h : Ow w B (.slice (some ⟨g, 0, none⟩) n cap) xs) (hn : n = xs.length) (k : Nat) (x : Int) :
    Ow (w.setCell ⟨g, k, none⟩ (.int .i64 x)) B (.slice (some ⟨g, 0, none⟩) n cap) (xs.set k x) := by
  subst hn
  have := (World.ownsRow.stored h k (.int .i64 x)).1
  unfold Ow
  simpa [List.map_set] using this
/-- A block that was just made and filled. -/
theorem Ow.made (w : World) (cs : Array Value) (hc : cs.toList = xs.map (Value.int .i64)) (hB : B ≤ w.heap.size) (hn : xs.length ≤ maxLen) :
    Ow (w.alloc (.cells cs 2)) B (.slice (some ⟨w.heap.size, 0, none⟩) xs.length xs.length) xs := by
  refine ⟨by simp, .inr ⟨w.heap.size, xs.length, cs, rfl, hB, heap_alloc_new w _, Nat.le_refl _, hn, ?_, ?_⟩⟩
  · have := congrArg List.length hc; simpa using this
  · rw [hc, List.take_of_length_le (by simp)]
end

/-- It returned a slice of its own that holds xs; what lay before lies as it lay. -/
def Mk (w : World) (xs : List Int) (e : Ending) (w' : World) : Prop := ∃ v, e = .returned v ∧ Ow w' w.heap.size v xs ∧ Below w.heap.size w w'

/-- A row of n cells, the first k of which hold the first elements of xs. -/
def Filled (cs : Array Value) (n k : Nat) (xs : List Int) : Prop := cs.size = n ∧ ∀ j, j < k → cs[j]? = some (.int .i64 (gi xs j))
theorem Filled.set_ {cs : Array Value} {n k : Nat} {xs : List Int} (h : Filled cs n k xs) (hk : k < n) : Filled (cs.setIfInBounds k (.int .i64 (gi xs k))) n (k + 1) xs := by
  refine ⟨by simp [h.1], fun j hj => ?_⟩
  rw [Array.getElem?_setIfInBounds]
  have := h.1
  by_cases e : k = j
  · subst e; simp [show k < cs.size by omega]
  · rw [if_neg e]; exact h.2 j (by omega)
theorem Filled.done {cs : Array Value} {n : Nat} {xs : List Int} (h : Filled cs n n xs) (hn : xs.length = n) : cs.toList = xs.map (Value.int .i64) := by
  apply List.ext_getElem?
  intro j
  by_cases hj : j < n
  · rw [List.getElem?_map, gi_get (by omega), Array.getElem?_toList, h.2 j hj]; rfl
  · rw [List.getElem?_eq_none (by simp [h.1]; omega), List.getElem?_eq_none (by simp; omega)]
theorem Filled.some_ {cs : Array Value} {n k j : Nat} {xs : List Int} (h : Filled cs n k xs) (hj : j < n) : ∃ u, cs[j]? = some u := ⟨cs[j]'(by rw [h.1]; exact hj), Array.getElem?_eq_getElem _⟩

theorem grownBy_drewN {a w : World} {row : Option Nat} (h : a.grownBy w row) (n : Nat) : a.grownBy (w.drewN n) row := ⟨h.os, h.tape, h.output, h.size, h.block⟩
theorem grownBy_drew {a w : World} {row : Option Nat} (h : a.grownBy w row) : a.grownBy w.drew row := ⟨h.os, h.tape, h.output, h.size, h.block⟩
theorem grownBy_alloc {a w : World} {row : Option Nat} (h : a.grownBy w row) (o : Obj) : a.grownBy (w.alloc o) row :=
  ⟨h.os, h.tape, h.output, Nat.le_trans h.size (by simp), fun i hi hne => (Below.heap_alloc w o i (Nat.lt_of_lt_of_le hi h.size)).trans (h.block i hi hne)⟩
theorem grownBy_setCell {a w : World} {g : Nat} (h : a.grownBy w (some g)) {p : Addr} (hp : p.block = g ∨ a.heap.size ≤ p.block) (u : Value) : a.grownBy (w.setCell p u) (some g) :=
  ⟨h.os, h.tape, h.output, by simpa [World.setCell] using h.size, fun i hi hne => (Below.heap_setCell w p u i (by
    rintro rfl
    rcases hp with hp | hp
    · exact hne (by rw [hp])
    · omega)).trans (h.block i hi hne)⟩
theorem grownBy_below {a w w' : World} {row : Option Nat} (h : a.grownBy w row) (hb : Below w.heap.size w w') : a.grownBy w' row :=
  ⟨hb.os.trans h.os, hb.tape.trans h.tape, hb.output.trans h.output, Nat.le_trans h.size hb.size, fun i hi hne => (hb.block i (Nat.lt_of_lt_of_le hi h.size)).trans (h.block i hi hne)⟩
theorem below_drewN {B : Nat} {a w : World} (h : Below B a w) (n : Nat) : Below B a (w.drewN n) := ⟨h.os, h.tape, h.output, h.size, h.block⟩

/-- q, q + 1, .. : n numbers. -/
def marks (q : Int) (n : Nat) : List Int := (List.range n).map fun (j : Nat) => q + (j : Int)
theorem marks_length (q : Int) (n : Nat) : (marks q n).length = n := by simp [marks]
def heldI (k : Int) : List Int → Int
  | [] => k
  | x :: xs => if x = k then heldI (k + 1) xs else -1
theorem marks_succ (q : Int) (n : Nat) : marks q (n + 1) = q :: marks (q + 1) n := by
  unfold marks
  rw [List.range_succ_eq_map, List.map_cons, List.map_map]
  congr 1
  · simp
  · apply List.map_congr_left; intro j _; simp; omega
theorem heldI_marks (n : Nat) : ∀ q : Int, heldI q (marks q n) = q + n := by
  induction n with
  | zero => intro q; simp [marks, heldI]
  | succ n ih => intro q; rw [marks_succ, heldI, if_pos rfl, ih]; omega
/-- The slice v, which held xs, now holds q, q + 1, ..; nothing else has turned. -/
def Mrk (w : World) (B : Nat) (v : Value) (xs : List Int) (q : Int) (e : Ending) (w' : World) : Prop :=
  e = .returned (.int .i64 (q + xs.length)) ∧ Ow w' B v (marks q xs.length) ∧ w.grownBy w' v.ownBlock
theorem mark_next {xs : List Int} {q : Int} {k : Nat} (hk : k < xs.length) : (marks q k ++ xs.drop k).set k (q + k) = marks q (k + 1) ++ xs.drop (k + 1) := by
  rw [List.set_append_right _ _ (by rw [marks_length]; omega), marks_length, Nat.sub_self, drop_gi hk, List.set_cons_zero]
  unfold marks
  rw [List.range_succ, List.map_append, List.append_assoc]; rfl

/-- Block g is just the cells cs of element type t, none frozen. -/
def Blk (w : World) (g : Nat) (t : TypeId) (cs : Array Value) : Prop := w.heap[g]? = some (.cells cs t (0, 0))
section
variable {w w' : World} {g B : Nat} {t : TypeId} {cs : Array Value}
theorem Blk.lt (h : Blk w g t cs) : g < w.heap.size := by
  rcases Nat.lt_or_ge g w.heap.size with hlt | hge
  · exact hlt
  · unfold Blk at h; rw [Array.getElem?_eq_none hge] at h; cases h
theorem Blk.cell (h : Blk w g t cs) (i : Nat) : w.cell? ⟨g, i, none⟩ = cs[i]? := cell_of_row w g i cs t (0, 0) h
theorem Blk.frozen (h : Blk w g t cs) (i : Nat) : w.frozen? ⟨g, i, none⟩ = false := frozen_of_row w g i cs t h
theorem Blk.both (h : Blk w g t cs) (i : Nat) (u : Value) (hu : cs[i]? = some u) : w.cell? ⟨g, i, none⟩ = some u ∧ w.frozen? ⟨g, i, none⟩ = false := ⟨(h.cell i).trans hu, h.frozen i⟩
theorem Blk.new (w : World) (t : TypeId) (cs : Array Value) : Blk (w.alloc (.cells cs t)) w.heap.size t cs := heap_alloc_new w _
theorem Blk.drew (h : Blk w g t cs) : Blk w.drew g t cs := h
theorem Blk.drewN (h : Blk w g t cs) (n : Nat) : Blk (w.drewN n) g t cs := h
theorem Blk.alloc (h : Blk w g t cs) (o : Obj) : Blk (w.alloc o) g t cs := (Below.heap_alloc w o g h.lt).trans h
theorem Blk.store (h : Blk w g t cs) (i : Nat) (u : Value) : Blk (w.setCell ⟨g, i, none⟩ u) g t (cs.setIfInBounds i u) := heap_setCell_same w g i cs t u h
theorem Blk.far (h : Blk w g t cs) {p : Addr} (hp : g ≠ p.block) (u : Value) : Blk (w.setCell p u) g t cs := (Below.heap_setCell w p u g hp).trans h
theorem Blk.below (h : Blk w g t cs) (hb : Below B w w') (hg : g < B) : Blk w' g t cs := (hb.block g hg).trans h
theorem Blk.all (h : Blk w g t cs) (hb : Below w.heap.size w w') : Blk w' g t cs := (hb.block g h.lt).trans h
theorem Blk.grown {row : Option Nat} (h : Blk w g t cs) (hb : w.grownBy w' row) (hg : row ≠ some g) : Blk w' g t cs := (hb.block g h.lt (fun e => hg e.symm)).trans h
/-- A block of another element type is no slice of int64. -/
theorem Ow.blk_ne {v : Value} {xs : List Int} (h : Ow w B v xs) (hg : Blk w g t cs) (hne : t ≠ 2) : v.ownBlock ≠ some g := by
  rcases h.2 with ⟨rfl, _⟩ | ⟨g', cap, cur, rfl, _, hh, _⟩
  · simp [Value.ownBlock]
  · intro he
    have : g' = g := by simpa [Value.ownBlock] using he
    subst this
    unfold Blk at hg
    rw [hg] at hh
    injection hh with hh
    injection hh with _ ht
    exact hne ht
end
/-- A store into a block that holds no slice of int64 leaves such a slice as it is. -/
theorem Ow.setCell {w : World} {B g : Nat} {t : TypeId} {cs : Array Value} {v : Value} {xs : List Int} (h : Ow w B v xs) (hg : Blk w g t cs) (hne : t ≠ 2) (i : Nat) (u : Value) :
    Ow (w.setCell ⟨g, i, none⟩ u) B v xs :=
  h.far (row := some g) ⟨rfl, rfl, rfl, by simp [World.setCell], fun k _ hk => Below.heap_setCell _ _ _ _ (fun e => hk (by rw [e]))⟩ (fun b hb e => h.blk_ne hg hne (by rw [hb]; injection e with e; rw [e]))

theorem Blk.new' (w : World) (t : TypeId) (cs : Array Value) (g : Nat) (hg : w.heap.size = g) : Blk (w.alloc (.cells cs t)) g t cs := hg ▸ Blk.new w t cs
theorem Ow.made' {xs : List Int} {B : Nat} (w : World) (cs : Array Value) (g n : Nat) (hg : w.heap.size = g) (hc : cs.toList = xs.map (Value.int .i64)) (hB : B ≤ g) (hl : xs.length = n) (hn : n ≤ maxLen) :
    Ow (w.alloc (.cells cs 2)) B (.slice (some ⟨g, 0, none⟩) n n) xs := by
  subst hg; subst hl; exact Ow.made w cs hc hB hn

theorem wr64 (n : Int) (h : i64ok n) : IntKind.i64.wrap n = n := IntWalk.i64_in n h
theorem wrap_eq (n : Int) : IntKind.i64.wrap n = wrap64 n := by rw [IntKind.wrap_i64]; unfold wrap64; omega
theorem wrap64_ok (n : Int) (h : i64ok n) : wrap64 n = n := IntWalk.wrap64_in n h

/-- A struct of three cells stored whole over a block of three cells. -/
def put3 (w : World) (g : Nat) (x y z : Value) : World := ((w.setCell ⟨g, 0, none⟩ x).setCell ⟨g, 1, none⟩ y).setCell ⟨g, 2, none⟩ z
section
variable {w : World} {g : Nat} {t : TypeId} {a b c x y z : Value}
theorem put3_blk (h : Blk w g t #[a, b, c]) : Blk (put3 w g x y z) g t #[x, y, z] := ((h.store 0 x).store 1 y).store 2 z
theorem put3_own {B : Nat} {v : Value} {xs : List Int} (hb : Blk w g t #[a, b, c]) (hne : t ≠ 2) (h : Ow w B v xs) : Ow (put3 w g x y z) B v xs :=
  ((h.setCell hb hne 0 x).setCell (hb.store 0 x) hne 1 y).setCell ((hb.store 0 x).store 1 y) hne 2 z
theorem put3_far {g' : Nat} {t' : TypeId} {cs : Array Value} (h : Blk w g' t' cs) (hne : g' ≠ g) : Blk (put3 w g x y z) g' t' cs := ((h.far hne x).far hne y).far hne z
theorem put3_below {B : Nat} {w0 : World} (h : Below B w0 w) (hB : B ≤ g) : Below B w0 (put3 w g x y z) := ((h.setCell hB x).setCell hB y).setCell hB z
theorem put3_size : (put3 w g x y z).heap.size = w.heap.size := by simp [put3, World.setCell]
end

theorem int_info : (Tryz.prog.info? 2).map (fun i => (i.zero, i.size, i.bytes)) = some (some (.int .i64 0), 1, 8) := by kernel_rfl

/-- What stands behind an append of y to the row v of the call's own, the element having been laid in block H. -/
def Pushed (w : World) (B : Nat) (v : Value) (xs : List Int) (y : Int) (H g cap : Nat) (w' : World) : Prop :=
  Ow w' B (.slice (some ⟨g, 0, none⟩) (xs.length + 1) cap) (xs ++ [y]) ∧ w.grownBy w' v.ownBlock ∧ (v.ownBlock = some g ∨ g = H + 1) ∧ g < w'.heap.size

section
variable {ops : Array Oper} {rest : List Oper} {o : Oper} {a : Act} {K : Act → World → Prop} {Q : Exit → Act → World → Prop}
theorem wp_push (w : World) (s x : Operand)
    (ho : o.op = .call { callee := .builtin .append, args := #[s, x], argTypes := #[24, 24] })
    (B : Nat) (v : Value) (xs : List Int) (hs : a.eval s = v) (hown : Ow w B v xs) (y : Int) (H T : Nat) (hx : a.eval x = .slice (some ⟨H, 0, none⟩) 1 1) (hb : Blk w H T #[.int .i64 y])
    (hn : xs.length ≤ 1073741824) (hB : B ≤ w.heap.size) (hH : w.heap.size = H + 1)
    (h : ∀ g cap w', Pushed w B v xs y H g cap w' → K (a.put o.dst (.slice (some ⟨g, 0, none⟩) (xs.length + 1) cap)) w') : o.wp Tryz.prog a w K Q := by
  obtain ⟨i0, hi0, hz0, hz1, hz2⟩ := info_parts int_info
  refine wp_append_lies w s x _ ho B 2 i0 _ 1 8 Tryz.underlying24 hi0 hz0 hz1 hz2 rfl (by omega) v xs.length _ hs hown ⟨H, 0, none⟩ 1 1 [.int .i64 y] hx rfl
    (World.news_of_block (cs := #[.int .i64 y]) hb) (by simp [Value.oneCell']) (by omega) (by unfold maxLen; omega) (by omega) hB (H + 1) hH ?_
  intro g cap w' h2 h3 h4 h5
  refine h g cap w' ⟨?_, h3, h4, h5⟩
  unfold Ow
  simpa using h2
theorem list_push (w : World) (hgd : o.guard = none) (s x : Operand)
    (ho : o.op = .call { callee := .builtin .append, args := #[s, x], argTypes := #[24, 24] })
    (B : Nat) (v : Value) (xs : List Int) (hs : a.eval s = v) (hown : Ow w B v xs) (y : Int) (H T : Nat) (hx : a.eval x = .slice (some ⟨H, 0, none⟩) 1 1) (hb : Blk w H T #[.int .i64 y])
    (hn : xs.length ≤ 1073741824) (hB : B ≤ w.heap.size) (hH : w.heap.size = H + 1)
    (h : ∀ g cap w', Pushed w B v xs y H g cap w' → wpList Tryz.prog ops Q rest (a.put o.dst (.slice (some ⟨g, 0, none⟩) (xs.length + 1) cap)) w') :
    wpList Tryz.prog ops Q (o :: rest) a w := by
  obtain ⟨i0, hi0, hz0, hz1, hz2⟩ := info_parts int_info
  refine wpList_append_lies w hgd s x _ ho B 2 i0 _ 1 8 Tryz.underlying24 hi0 hz0 hz1 hz2 rfl (by omega) v xs.length _ hs hown ⟨H, 0, none⟩ 1 1 [.int .i64 y] hx rfl
    (World.news_of_block (cs := #[.int .i64 y]) hb) (by simp [Value.oneCell']) (by omega) (by unfold maxLen; omega) (by omega) hB (H + 1) hH ?_
  intro g cap w' h2 h3 h4 h5
  refine h g cap w' ⟨?_, h3, h4, h5⟩
  unfold Ow
  simpa using h2
end

section
variable {w w' : World} {B H g cap : Nat} {v : Value} {xs : List Int} {y : Int}
theorem Pushed.own (h : Pushed w B v xs y H g cap w') : Ow w' B (.slice (some ⟨g, 0, none⟩) (xs.length + 1) cap) (xs ++ [y]) := h.1
/-- A block that is no slice of int64 is as it was. -/
theorem Pushed.blk (h : Pushed w B v xs y H g cap w') (ho : Ow w B v xs) {b : Nat} {t : TypeId} {cs : Array Value} (hb : Blk w b t cs) (hne : t ≠ 2) : Blk w' b t cs :=
  hb.grown h.2.1 (ho.blk_ne hb hne)
/-- Another row that lies apart is as it was. -/
theorem Pushed.far (h : Pushed w B v xs y H g cap w') {B' : Nat} {v' : Value} {ys : List Int} (ho : Ow w B' v' ys) (ha : Apart v' v) : Ow w' B' v' ys := ho.far h.2.1 ha
theorem Pushed.apart (h : Pushed w B v xs y H g cap w') {v' : Value} {n : Nat} (ho : ∀ b, v'.ownBlock = some b → b ≠ H + 1) (ha : Apart v' v) : Apart v' (.slice (some ⟨g, 0, none⟩) n cap) := by
  intro b hb e
  have e' : g = b := by simpa [Value.ownBlock] using e
  subst e'
  rcases h.2.2.1 with h4 | h4
  · exact ha _ hb h4
  · exact ho _ hb h4
theorem Pushed.below (h : Pushed w B v xs y H g cap w') (ho : Ow w B v xs) (hB : B ≤ w.heap.size) : Below B w w' :=
  (Below.refl _ _).grown h.2.1 hB (fun k hk => (ho.lt k hk).1)
end

section
variable {P : Program} {ops : Array Oper} {Q : Exit → Act → World → Prop} {md : Region.Mode} {S : World → Prop} {z : Nat}

/-- Whatever order is picked from here on, and S holds behind every operation below z that is carried out. -/
def AnyZ (P : Program) (md : Region.Mode) (ops : Array Oper) (Q : Exit → Act → World → Prop) (S : World → Prop) (z : Nat) : Nat → Array Bool → Act → World → Prop
  | 0, listed, a, w => Region.ready md ops listed = [] ∧ Q .normal a w
  | fuel + 1, listed, a, w =>
    (Region.ready md ops listed = [] → Q .normal a w) ∧
    ∀ i ∈ Region.ready md ops listed, wpOp P ops Q i (fun a' w' => (i < z → S w') ∧ AnyZ P md ops Q S z fuel (listed.setIfInBounds i true) a' w') a w

theorem any_of_z : ∀ (fuel : Nat) (listed : Array Bool) (a : Act) (w : World), AnyZ P md ops Q S z fuel listed a w → wpAny P md ops Q fuel listed a w
  | 0, _, _, _, h => h
  | fuel + 1, _, _, _, h => ⟨h.1, fun i hi => wpOp_mono (fun a' w' h' => any_of_z fuel _ a' w' h'.2) (h.2 i hi)⟩

/-- Each operation from z on waits for number i itself. -/
def waited (md : Region.Mode) (ops : Array Oper) (z i : Nat) : Bool :=
  (List.range ops.size).all fun j => decide (j < z) || match ops[j]? with
    | some o => o.after.any fun e => Region.binds md e && e.on == i
    | none => true

theorem not_ready_of_waited {i j : Nat} {listed : Array Bool} (h : waited md ops z i = true) (hi : listed.getD i true = false) (hj : j ∈ Region.ready md ops listed) : j < z := by
  obtain ⟨_, o, ho, hall⟩ := mem_ready.1 hj
  simp only [waited, List.all_eq_true, List.mem_range] at h
  have h1 := h j (Array.getElem?_eq_some_iff.1 ho).1
  simp only [ho, Bool.or_eq_true, decide_eq_true_eq] at h1
  rcases h1 with h1 | h1
  · exact h1
  · obtain ⟨e, he, hb⟩ := Array.any_eq_true'.1 h1
    simp only [Bool.and_eq_true, beq_iff_eq] at hb
    have h2 := hall e he hb.1
    rw [hb.2] at h2
    rcases Nat.lt_or_ge i listed.size with h' | h'
    · simp [h'] at hi h2; rw [hi] at h2; cases h2
    · simp [Array.getElem?_eq_none h'] at h2

theorem anyZ_first {i : Nat} {oi : Oper} {v : Value} (hi : ops[i]? = some oi) (hsel : ∀ (j : Nat) (o : Oper) cs b, ops[j]? = some o → o.op ≠ .select cs b)
    (hQ : ∀ c a w, Q (.panic c) (a.put oi.dst v) w → Q (.panic c) a w) (hwt : waited md ops z i = true) (hiz : i < z) :
    ∀ (fuel : Nat) (listed : Array Bool) (a : Act) (w : World),
      (∀ j oj, ops[j]? = some oj → j ≠ i → listed.getD j true = false → (∀ e ∈ oj.after, Region.binds md e = true → e.on ≠ i) → oi.apart ops oj = true) →
      i ∈ Region.ready md ops listed → YieldsIf P ops S oi v a → S w →
      AnyZ P md ops Q S z fuel (listed.setIfInBounds i true) (a.put oi.dst v) w → AnyZ P md ops Q S z (fuel + 1) listed a w := by
  intro fuel
  induction fuel with
  | zero =>
    intro listed a w _ hr hy hS H
    refine ⟨fun h => (by rw [h] at hr; cases hr), fun j hj => ?_⟩
    by_cases hji : j = i
    · subst hji; exact hy.wpOp hi hS ⟨fun _ => hS, H⟩
    · have := ready_mono hj hji
      rw [H.1] at this
      cases this
  | succ fuel ih =>
    intro listed a w hfree hr hy hS H
    refine ⟨fun h => (by rw [h] at hr; cases hr), fun j hj => ?_⟩
    by_cases hji : j = i
    · subst hji; exact hy.wpOp hi hS ⟨fun _ => hS, H⟩
    · have hjz : j < z := not_ready_of_waited hwt (mem_ready.1 hr).1 hj
      have h1 := H.2 j (ready_mono hj hji)
      obtain ⟨hjun, oj, hoj, hall⟩ := mem_ready.1 hj
      have hnot : ∀ e ∈ oj.after, Region.binds md e = true → e.on ≠ i := fun e he hb heq => by
        have h1 := hall e he hb
        have h0 := (mem_ready.1 hr).1
        rw [heq] at h1
        rcases Nat.lt_or_ge i listed.size with h' | h'
        · simp [h'] at h0 h1; rw [h0] at h1; cases h1
        · simp [Array.getElem?_eq_none h'] at h1
      have h2 := wpOp_putIf hoj (hfree j oj hoj hji hjun hnot) (fun cs b => hsel i oi cs b hi) (fun cs b => hsel j oj cs b hoj) hQ hy h1
      have hfree' : ∀ k ok, ops[k]? = some ok → k ≠ i → (listed.setIfInBounds j true).getD k true = false →
          (∀ e ∈ ok.after, Region.binds md e = true → e.on ≠ i) → oi.apart ops ok = true := fun k ok hk hki hun hno => by
        refine hfree k ok hk hki ?_ hno
        by_cases hjk : j = k
        · subst hjk; exact hjun
        · rw [getD_set_ne true hjk] at hun; exact hun
      refine wpOp_mono (fun a' w' h3 => ⟨h3.2.1, ih (listed.setIfInBounds j true) a' w' hfree' (ready_mono hr (Ne.symm hji)) h3.1 (h3.2.1 hjz) ?_⟩) h2
      rw [Array.setIfInBounds_comm _ _ hji]
      exact h3.2.2

/-- What only reads: it may be taken as soon as it may come up. -/
def taken (o : Oper) : Bool :=
  match o.op with
  | .move _ | .assign _ | .pick .. | .nilCheck _ | .binOp .. | .unOp .. | .convert .. | .fieldAddr .. | .field .. | .indexAddr .. | .index .. | .extract .. | .slice .. | .build .. | .load .. | .makeInterface .. => true
  | .call c => match c.callee with
    | .builtin .len => true
    | .builtin .cap => true
    | _ => false
  | _ => false

def takes (z : Nat) (o : Oper) (i : Nat) : Bool := taken o && decide (i < z)
theorem takes_lt {z : Nat} {o : Oper} {i : Nat} (h : takes z o i = true) : i < z := by
  unfold takes at h
  cases ht : taken o <;> simp [ht] at h
  exact h
/-- The order l may be walked: what only reads is free to come first; all else comes up alone. -/
def orderOk (md : Region.Mode) (ops : Array Oper) (z : Nat) : List Nat → Array Bool → Bool
  | [], listed => (Region.ready md ops listed).isEmpty
  | i :: l, listed =>
    (match ops[i]? with
      | some o => if takes z o i then (Region.ready md ops listed).contains i && Region.free md ops listed i && waited md ops z i else Region.ready md ops listed == [i] && (decide (i < z) || l.all fun k => decide (z ≤ k))
      | none => false) && orderOk md ops z l (listed.setIfInBounds i true)

/-- The walk in the order l. -/
def OrdW (P : Program) (ops : Array Oper) (Q : Exit → Act → World → Prop) (S : World → Prop) (z : Nat) : List Nat → Act → World → Prop
  | [], a, w => Q .normal a w
  | i :: l, a, w => ∀ o, ops[i]? = some o →
    if takes z o i then ∃ v, YieldsIf P ops S o v a ∧ OrdW P ops Q S z l (a.put o.dst v) w
    else wpOp P ops Q i (fun a' w' => (i < z → S w') ∧ OrdW P ops Q S z l a' w') a w

theorem ord_sound (hs : Region.noSelect ops = true) (hQ : ∀ c a d v w, Q (.panic c) (Act.put a (some d) v) w → Q (.panic c) a w) :
    ∀ (l : List Nat) (listed : Array Bool) (a : Act) (w : World), orderOk md ops z l listed = true → ((∃ i ∈ l, i < z) → S w) → OrdW P ops Q S z l a w → AnyZ P md ops Q S z l.length listed a w := by
  intro l
  induction l with
  | nil =>
    intro listed a w hok _ h
    have : Region.ready md ops listed = [] := by simpa [orderOk] using hok
    exact ⟨this, h⟩
  | cons i l ih =>
    intro listed a w hok hS h
    simp only [orderOk, Bool.and_eq_true] at hok
    obtain ⟨hok, hrest⟩ := hok
    cases ho : ops[i]? with
    | none => rw [ho] at hok; cases hok
    | some o =>
      rw [ho] at hok
      have h1 := h o ho
      by_cases ht : takes z o i = true
      · simp only [ht, if_true] at hok h1
        obtain ⟨v, hy, hw⟩ := h1
        have hiz : i < z := takes_lt ht
        rw [Bool.and_eq_true, Bool.and_eq_true] at hok
        exact anyZ_first ho (Region.noSelect_spec hs) (fun c a w hp => by cases hd : o.dst with | none => rw [hd] at hp; exact hp | some d => rw [hd] at hp; exact hQ c a d v w hp) hok.2 hiz l.length listed a w (Region.free_spec ho hok.1.2) (by simpa using hok.1.1) hy (hS ⟨i, by simp, hiz⟩)
          (ih _ _ _ hrest (fun ⟨j, hj, hjz⟩ => hS ⟨j, by simp [hj], hjz⟩) hw)
      · simp only [ht, if_false, Bool.false_eq_true] at hok h1
        rw [Bool.and_eq_true] at hok
        have hr : Region.ready md ops listed = [i] := by simpa using hok.1
        refine ⟨fun h0 => (by rw [hr] at h0; cases h0), fun j hj => ?_⟩
        rw [hr] at hj
        obtain rfl : j = i := by simpa using hj
        refine wpOp_mono (fun a' w' h' => ⟨h'.1, ih _ _ _ hrest (fun ⟨k, hk, hkz⟩ => ?_) h'.2⟩) h1
        have h2 := hok.2
        rw [Bool.or_eq_true] at h2
        rcases h2 with h2 | h2
        · exact h'.1 (by simpa using h2)
        · rw [List.all_eq_true] at h2
          have := h2 k hk
          simp only [decide_eq_true_eq] at this
          omega

/-- The beginning. -/
theorem wp_region_ord {id : Nat} {a : Act} {w : World} (l : List Nat) (z : Nat) (S : World → Prop) (hm : P.follows .mixedOrders = true) (hs : Region.noSelect ops = true)
    (hok : (l.length == ops.size && orderOk .any ops z l (Array.replicate ops.size false)) = true)
    (hQ : ∀ c a d v w, Q (.panic c) (Act.put a (some d) v) w → Q (.panic c) a w) (hS : S w.drew) (h : OrdW P ops Q S z l a w.drew) : (Code.region id ops true).wp P Q a w := by
  rw [Bool.and_eq_true] at hok
  have hl : l.length = ops.size := by simpa using hok.1
  have h1 := any_of_z _ _ _ _ (ord_sound hs hQ l _ a w.drew hok.2 (fun _ => hS) h)
  rw [hl] at h1
  exact wp_region_any hm h1

/-- The end. -/
theorem ord_nil {a : Act} {w : World} (h : Q .normal a w) : OrdW P ops Q S z [] a w := h
/-- An operation that only reads. -/
theorem ord_take {i : Nat} {l : List Nat} {a : Act} {w : World} {o : Oper} {v : Value} (ho : ops[i]? = some o) (ht : takes z o i = true)
    (hw : Region.wanted o (yielded ops a.tmps) = true) (hy : ∀ w, S w → (execOp a.eval o).run P w = .ok (.value v) w) (h : OrdW P ops Q S z l (a.put o.dst v) w) : OrdW P ops Q S z (i :: l) a w := by
  intro o' ho'
  obtain rfl : o = o' := by rw [ho] at ho'; exact Option.some.inj ho'
  rw [if_pos ht]
  exact ⟨v, .inl ⟨hw, hy⟩, h⟩
/-- An operation that is guarded and not wanted. -/
theorem ord_pass {i : Nat} {l : List Nat} {a : Act} {w : World} {o : Oper} (ho : ops[i]? = some o)
    (hw : Region.wanted o (yielded ops a.tmps) = false) (hS : i < z → S w) (h : OrdW P ops Q S z l (a.put o.dst undef) w) : OrdW P ops Q S z (i :: l) a w := by
  intro o' ho'
  obtain rfl : o = o' := by rw [ho] at ho'; exact Option.some.inj ho'
  by_cases ht : takes z o i = true
  · rw [if_pos ht]; exact ⟨undef, .inr ⟨hw, rfl⟩, h⟩
  · rw [if_neg ht]; unfold wpOp; simp only [ho, hw, Bool.false_eq_true, if_false]; exact ⟨hS, h⟩
/-- An operation that is carried out: behind it S is shown anew, if it comes ahead of z. -/
theorem ord_do {i : Nat} {l : List Nat} {a : Act} {w : World} {o : Oper} (ho : ops[i]? = some o) (ht : takes z o i = false) (hw : Region.wanted o (yielded ops a.tmps) = true)
    (h : ∀ K : Act → World → Prop, Shut (∀ a w, (i < z → S w) → OrdW P ops Q S z l a w → K a w) → Oper.wp P o a w K Q) : OrdW P ops Q S z (i :: l) a w := by
  intro o' ho'
  obtain rfl : o = o' := by rw [ho] at ho'; exact Option.some.inj ho'
  rw [if_neg (by rw [ht]; exact Bool.false_ne_true)]
  unfold wpOp
  simp only [ho, hw, if_true]
  exact .inl (h _ (fun a' w' h1 h2 => ⟨h1, h2⟩))
end

/-- The world w is W, and has drawn. -/
def Dr (W w : World) : Prop := ∃ k, w = W.drewN k
theorem Dr.refl (W : World) : Dr W W := ⟨0, rfl⟩
theorem Dr.one (W : World) : Dr W W.drew := ⟨1, rfl⟩
theorem Dr.step {W w w' : World} (h : Dr W w) {m : Nat} (hw : w' = w.drewN m) : Dr W w' := by
  obtain ⟨k, rfl⟩ := h
  exact ⟨k + m, hw.trans (World.drewN_drewN _ _ _)⟩
theorem Dr.drew {W w : World} (h : Dr W w) : Dr W w.drew := h.step (m := 1) rfl
theorem Dr.below {W w w0 : World} {B : Nat} (h : Dr W w) (hb : Below B w0 W) : Below B w0 w := by
  obtain ⟨k, rfl⟩ := h
  exact below_drewN hb k
theorem Dr.all {W w : World} {B : Nat} (h : Dr W w) : Below B W w := h.below (Below.refl _ _)
theorem Qt.dr {w : World} {v : Value} {e : Ending} {w' : World} (h : Qt w v e w') : e = .returned v ∧ Dr w w' := h
theorem Dr.trans {A B C : World} (h : Dr A B) (k : Dr B C) : Dr A C := by obtain ⟨m, rfl⟩ := k; exact h.step rfl

section
variable {P : Program} {ops : Array Oper} {Q : Exit → Act → World → Prop}
/-- A region behind which the world is W, and has drawn. -/
theorem wp_region_dr {id : Nat} {a : Act} {w : World} (l : List Nat) (z : Nat) (W : World) (hm : P.follows .mixedOrders = true) (hs : Region.noSelect ops = true)
    (hok : (l.length == ops.size && orderOk .any ops z l (Array.replicate ops.size false)) = true)
    (hQ : ∀ c a d v w, Q (.panic c) (Act.put a (some d) v) w → Q (.panic c) a w) (hS : Dr W w) (h : ∀ wd, Dr W wd → OrdW P ops Q (Dr W) z l a wd) : (Code.region id ops true).wp P Q a w :=
  wp_region_ord l z (Dr W) hm hs hok hQ hS.drew (h _ hS.drew)
/-- A region behind which what lay in W below B lies as it lay. -/
theorem wp_region_be {id : Nat} {a : Act} {w : World} (l : List Nat) (z : Nat) (B : Nat) (W : World) (hm : P.follows .mixedOrders = true) (hs : Region.noSelect ops = true)
    (hok : (l.length == ops.size && orderOk .any ops z l (Array.replicate ops.size false)) = true)
    (hQ : ∀ c a d v w, Q (.panic c) (Act.put a (some d) v) w → Q (.panic c) a w) (hS : Below B W w) (h : ∀ wd, Below B W wd → OrdW P ops Q (Below B W) z l a wd) : (Code.region id ops true).wp P Q a w :=
  wp_region_ord l z (Below B W) hm hs hok hQ hS.drew (h _ hS.drew)
theorem ord_tk {S : World → Prop} {z : Nat} {i : Nat} {l : List Nat} {a : Act} {w : World} {o : Oper} {v : Value} {d : Nat} (ho : ops[i]? = some o) (hd : o.dst = some d) (ht : takes z o i = true)
    (hw : Region.wanted o (yielded ops a.tmps) = true) (hy : ∀ w, S w → (execOp a.eval o).run P w = .ok (.value v) w) (h : OrdW P ops Q S z l (a.put (some d) v) w) : OrdW P ops Q S z (i :: l) a w := ord_take ho ht hw hy (hd ▸ h)
theorem ord_skip {S : World → Prop} {z : Nat} {i : Nat} {l : List Nat} {a : Act} {w : World} {o : Oper} {d : Nat} (ho : ops[i]? = some o) (hd : o.dst = some d)
    (hw : Region.wanted o (yielded ops a.tmps) = false) (hS : i < z → S w) (h : OrdW P ops Q S z l (a.put (some d) undef) w) : OrdW P ops Q S z (i :: l) a w := ord_pass ho hw hS (hd ▸ h)
end

/-- The orders of a region. -/
inductive Ot where
  | nil
  | one (i : Nat) (t : Ot)
  | two (i : Nat) (ti : Ot) (j : Nat) (tj : Ot)
/-- Does an operation below z come? -/
def Ot.has (z : Nat) : Ot → Bool
  | .nil => false
  | .one i t => decide (i < z) || t.has z
  | .two i ti j tj => decide (i < z) || decide (j < z) || ti.has z || tj.has z

section
variable {P : Program} {ops : Array Oper} {Q : Exit → Act → World → Prop} {md : Region.Mode} {S : World → Prop} {z : Nat}
def okT (md : Region.Mode) (ops : Array Oper) (z : Nat) : Nat → Ot → Array Bool → Bool
  | 0, .nil, listed => (Region.ready md ops listed).isEmpty
  | n + 1, .one i t, listed =>
    (match ops[i]? with
      | some o => if takes z o i then (Region.ready md ops listed).contains i && Region.free md ops listed i && waited md ops z i else Region.ready md ops listed == [i] && (decide (i < z) || !t.has z)
      | none => false) && okT md ops z n t (listed.setIfInBounds i true)
  | n + 1, .two i ti j tj, listed =>
    (match ops[i]?, ops[j]? with
      | some oi, some oj => !takes z oi i && !takes z oj j && Region.ready md ops listed == [i, j] && (decide (i < z) || !ti.has z) && (decide (j < z) || !tj.has z)
      | _, _ => false) && okT md ops z n ti (listed.setIfInBounds i true) && okT md ops z n tj (listed.setIfInBounds j true)
  | _, _, _ => false
def stepT (P : Program) (ops : Array Oper) (Q : Exit → Act → World → Prop) (S : World → Prop) (z i : Nat) (K : Act → World → Prop) (a : Act) (w : World) : Prop := ∀ o, ops[i]? = some o →
    if takes z o i then ∃ v, YieldsIf P ops S o v a ∧ K (a.put o.dst v) w
    else wpOp P ops Q i (fun a' w' => (i < z → S w') ∧ K a' w') a w
def OrdT (P : Program) (ops : Array Oper) (Q : Exit → Act → World → Prop) (S : World → Prop) (z : Nat) : Ot → Act → World → Prop
  | .nil, a, w => Q .normal a w
  | .one i t, a, w => stepT P ops Q S z i (OrdT P ops Q S z t) a w
  | .two i ti j tj, a, w => stepT P ops Q S z i (OrdT P ops Q S z ti) a w ∧ stepT P ops Q S z j (OrdT P ops Q S z tj) a w

theorem ordT_sound (hs : Region.noSelect ops = true) (hQ : ∀ c a d v w, Q (.panic c) (Act.put a (some d) v) w → Q (.panic c) a w) :
    ∀ (n : Nat) (t : Ot) (listed : Array Bool) (a : Act) (w : World), okT md ops z n t listed = true → (t.has z = true → S w) → OrdT P ops Q S z t a w → AnyZ P md ops Q S z n listed a w := by
  intro n
  induction n with
  | zero =>
    intro t listed a w hok _ h
    cases t with
    | nil => exact ⟨by simpa [okT] using hok, h⟩
    | one i t => simp [okT] at hok
    | two i ti j tj => simp [okT] at hok
  | succ n ih =>
    intro t listed a w hok hS h
    cases t with
    | nil => simp [okT] at hok
    | one i t =>
      simp only [okT, Bool.and_eq_true] at hok
      obtain ⟨hok, hrest⟩ := hok
      cases ho : ops[i]? with
      | none => rw [ho] at hok; cases hok
      | some o =>
        rw [ho] at hok
        have h1 := h o ho
        by_cases ht : takes z o i = true
        · simp only [ht, if_true] at hok h1
          obtain ⟨v, hy, hw⟩ := h1
          have hiz : i < z := takes_lt ht
          rw [Bool.and_eq_true, Bool.and_eq_true] at hok
          have hSw : S w := hS (by simp [Ot.has, hiz])
          exact anyZ_first ho (Region.noSelect_spec hs) (fun c a w hp => by cases hd : o.dst with | none => rw [hd] at hp; exact hp | some d => rw [hd] at hp; exact hQ c a d v w hp) hok.2 hiz n listed a w (Region.free_spec ho hok.1.2) (by simpa using hok.1.1) hy hSw
            (ih _ _ _ _ hrest (fun _ => hSw) hw)
        · simp only [ht, if_false, Bool.false_eq_true] at hok h1
          rw [Bool.and_eq_true] at hok
          have hr : Region.ready md ops listed = [i] := by simpa using hok.1
          refine ⟨fun h0 => (by rw [hr] at h0; cases h0), fun j hj => ?_⟩
          rw [hr] at hj
          obtain rfl : j = i := by simpa using hj
          refine wpOp_mono (fun a' w' h' => ⟨h'.1, ih _ _ _ _ hrest (fun hh => ?_) h'.2⟩) h1
          have h2 := hok.2
          rw [Bool.or_eq_true] at h2
          rcases h2 with h2 | h2
          · exact h'.1 (by simpa using h2)
          · rw [hh] at h2; cases h2
    | two i ti j tj =>
      simp only [okT, Bool.and_eq_true] at hok
      obtain ⟨⟨hok, hri⟩, hrj⟩ := hok
      cases hoi : ops[i]? with
      | none => rw [hoi] at hok; cases hok
      | some oi =>
        cases hoj : ops[j]? with
        | none => rw [hoi, hoj] at hok; cases hok
        | some oj =>
          rw [hoi, hoj] at hok
          simp only [Bool.and_eq_true] at hok
          obtain ⟨⟨⟨⟨hti, htj⟩, hr⟩, hzi⟩, hzj⟩ := hok
          have hr : Region.ready md ops listed = [i, j] := by simpa using hr
          obtain ⟨h1, h2⟩ := h
          have h1 := h1 oi hoi
          have h2 := h2 oj hoj
          rw [Bool.not_eq_true'] at hti htj
          rw [hti] at h1
          rw [htj] at h2
          simp only [Bool.false_eq_true, if_false] at h1 h2
          refine ⟨fun h0 => (by rw [hr] at h0; cases h0), fun k hk => ?_⟩
          rw [hr] at hk
          simp only [List.mem_cons, List.not_mem_nil, or_false] at hk
          rcases hk with rfl | rfl
          · refine wpOp_mono (fun a' w' h' => ⟨h'.1, ih _ _ _ _ hri (fun hh => ?_) h'.2⟩) h1
            rw [Bool.or_eq_true] at hzi
            rcases hzi with h2 | h2
            · exact h'.1 (by simpa using h2)
            · rw [hh] at h2; cases h2
          · refine wpOp_mono (fun a' w' h' => ⟨h'.1, ih _ _ _ _ hrj (fun hh => ?_) h'.2⟩) h2
            rw [Bool.or_eq_true] at hzj
            rcases hzj with h2 | h2
            · exact h'.1 (by simpa using h2)
            · rw [hh] at h2; cases h2

/-- The beginning. -/
theorem wp_region_ot {id : Nat} {a : Act} {w : World} (t : Ot) (z : Nat) (S : World → Prop) (hm : P.follows .mixedOrders = true) (hs : Region.noSelect ops = true)
    (hok : okT .any ops z ops.size t (Array.replicate ops.size false) = true)
    (hQ : ∀ c a d v w, Q (.panic c) (Act.put a (some d) v) w → Q (.panic c) a w) (hS : S w.drew) (h : OrdT P ops Q S z t a w.drew) : (Code.region id ops true).wp P Q a w :=
  wp_region_any hm (any_of_z _ _ _ _ (ordT_sound hs hQ _ t _ a w.drew hok (fun _ => hS) h))
/-- A region behind which what lay in W below B lies as it lay. -/
theorem wp_region_bt {id : Nat} {a : Act} {w : World} (t : Ot) (z : Nat) (B : Nat) (W : World) (hm : P.follows .mixedOrders = true) (hs : Region.noSelect ops = true)
    (hok : okT .any ops z ops.size t (Array.replicate ops.size false) = true)
    (hQ : ∀ c a d v w, Q (.panic c) (Act.put a (some d) v) w → Q (.panic c) a w) (hS : Below B W w) (h : ∀ wd, Below B W wd → OrdT P ops Q (Below B W) z t a wd) : (Code.region id ops true).wp P Q a w :=
  wp_region_ot t z (Below B W) hm hs hok hQ hS.drew (h _ hS.drew)

theorem ot_nil {a : Act} {w : World} (h : Q .normal a w) : OrdT P ops Q S z .nil a w := h
theorem ot_two {i j : Nat} {ti tj : Ot} {a : Act} {w : World} (h1 : OrdT P ops Q S z (.one i ti) a w) (h2 : OrdT P ops Q S z (.one j tj) a w) : OrdT P ops Q S z (.two i ti j tj) a w := ⟨h1, h2⟩
theorem ot_tk {i : Nat} {l : Ot} {a : Act} {w : World} {o : Oper} {v : Value} {d : Nat} (ho : ops[i]? = some o) (hd : o.dst = some d) (ht : takes z o i = true)
    (hw : Region.wanted o (yielded ops a.tmps) = true) (hy : ∀ w, S w → (execOp a.eval o).run P w = .ok (.value v) w) (h : OrdT P ops Q S z l (a.put (some d) v) w) : OrdT P ops Q S z (.one i l) a w := by
  intro o' ho'
  obtain rfl : o = o' := by rw [ho] at ho'; exact Option.some.inj ho'
  rw [if_pos ht]
  exact ⟨v, .inl ⟨hw, hy⟩, hd ▸ h⟩
theorem ot_skip {i : Nat} {l : Ot} {a : Act} {w : World} {o : Oper} {d : Nat} (ho : ops[i]? = some o) (hd : o.dst = some d)
    (hw : Region.wanted o (yielded ops a.tmps) = false) (hS : i < z → S w) (h : OrdT P ops Q S z l (a.put (some d) undef) w) : OrdT P ops Q S z (.one i l) a w := by
  intro o' ho'
  obtain rfl : o = o' := by rw [ho] at ho'; exact Option.some.inj ho'
  rw [← hd] at h
  by_cases ht : takes z o i = true
  · rw [if_pos ht]; exact ⟨undef, .inr ⟨hw, rfl⟩, h⟩
  · rw [if_neg ht]; unfold wpOp; simp only [ho, hw, Bool.false_eq_true, if_false]; exact ⟨hS, h⟩
theorem ot_do {i : Nat} {l : Ot} {a : Act} {w : World} {o : Oper} (ho : ops[i]? = some o) (ht : takes z o i = false) (hw : Region.wanted o (yielded ops a.tmps) = true)
    (h : ∀ K : Act → World → Prop, Shut (∀ a w, (i < z → S w) → OrdT P ops Q S z l a w → K a w) → Oper.wp P o a w K Q) : OrdT P ops Q S z (.one i l) a w := by
  intro o' ho'
  obtain rfl : o = o' := by rw [ho] at ho'; exact Option.some.inj ho'
  rw [if_neg (by rw [ht]; exact Bool.false_ne_true)]
  unfold wpOp
  simp only [ho, hw, if_true]
  exact .inl (h _ (fun a' w' h1 h2 => ⟨h1, h2⟩))
end

theorem take_step {xs ys : List Int} {k : Nat} (hx : k < xs.length) (hy : k < ys.length) (h : xs.take k = ys.take k) (he : gi xs k = gi ys k) : xs.take (k + 1) = ys.take (k + 1) := by
  rw [take_gi hx, take_gi hy, h, he]
theorem ne_of_gi {xs ys : List Int} {k : Nat} (he : gi xs k ≠ gi ys k) : (xs == ys) = false := by
  rw [beq_eq_false_iff_ne]; rintro rfl; exact he rfl

theorem heldI_step {xs : List Int} {k : Nat} {q r : Int} (hx : k < xs.length) (h : heldI r xs = heldI q (xs.drop k)) (he : gi xs k = q) : heldI r xs = heldI (q + 1) (xs.drop (k + 1)) := by
  rw [h, drop_gi hx, heldI, if_pos he]
theorem heldI_stop {xs : List Int} {k : Nat} {q r : Int} (hx : k < xs.length) (h : heldI r xs = heldI q (xs.drop k)) (he : gi xs k ≠ q) : heldI r xs = -1 := by
  rw [h, drop_gi hx, heldI, if_neg he]

end Go.Proofs.YtonehmjoolflfaaGreatDoor
