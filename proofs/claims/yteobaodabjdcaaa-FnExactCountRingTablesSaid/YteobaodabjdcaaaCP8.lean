
/- The orbits of triples, plain; three stores into a cube; lists of lists of triples. -/
import Derived.Test.YteobaodabjdcaaaCP7
namespace Go.Proofs.Yteobaodabjdcaaa
open Go Go.RowKit
set_option linter.unusedSimpArgs false
set_option linter.unusedVariables false
set_option maxRecDepth 100000
/-! ### plain -/
def Kt (d : Nat → Nat) (t : T3) : Nat := ((List.range 9).find? fun K => (outK d t K).length == K).getD 0
def orbit (d : Nat → Nat) (t : T3) : List T3 := outK d t (Kt d t)
def orbF (d : Nat → Nat) (l : List T3) : List (List T3) := l.foldl (fun os t => if t ∈ os.flatten then os else os ++ [orbit d t]) []
theorem orbF_snoc (d : Nat → Nat) (l : List T3) (t : T3) : orbF d (l ++ [t]) = if t ∈ (orbF d l).flatten then orbF d l else orbF d l ++ [orbit d t] := by
  unfold orbF; rw [List.foldl_append]; rfl
/-- The triples ahead of (i + 1, j + 1, k + 1). -/
def P3 (N i j k : Nat) : List T3 := ((List.range i).flatMap fun a => (List.range N).flatMap fun b => (List.range N).map fun c => (a + 1, b + 1, c + 1)) ++ ((List.range j).flatMap fun b => (List.range N).map fun c => (i + 1, b + 1, c + 1)) ++ (List.range k).map fun c => (i + 1, j + 1, c + 1)
theorem P3_k (N i j k : Nat) : P3 N i j (k + 1) = P3 N i j k ++ [(i + 1, j + 1, k + 1)] := by
  unfold P3; rw [List.range_succ (n := k), List.map_append, ← List.append_assoc]; rfl
theorem P3_j (N i j : Nat) : P3 N i j N = P3 N i (j + 1) 0 := by
  unfold P3; rw [List.range_succ (n := j), List.flatMap_append, ← List.append_assoc]; simp
theorem P3_i (N i : Nat) : P3 N i N 0 = P3 N (i + 1) 0 0 := by
  unfold P3; rw [List.range_succ (n := i), List.flatMap_append]; simp
/-- What is told of some duals: turns end, and the orbits are those that were named. -/
structure Du3 (n : Nat) (d : Nat → Nat) (os : List (List T3)) : Prop where
  lt : ∀ i, i < n → d i < n
  tw : ∀ i, i < n → d (d i) = i
  z : d 0 = 0
  tr : ∀ a b c, a < n - 1 → b < n - 1 → c < n - 1 → (a + 1, b + 1, c + 1) ∈ trs3 ∧ Trn n d (a + 1, b + 1, c + 1) (Kt d (a + 1, b + 1, c + 1))
  all : orbF d (P3 (n - 1) (n - 1) 0 0) = os
  many : os.length ≤ 8
  fl : ∀ a b c, a ≤ n - 1 → b ≤ n - 1 → c ≤ n - 1 → (orbF d (P3 (n - 1) a b c)).flatten.length ≤ 100 ∧ (orbF d (P3 (n - 1) a b c)).length ≤ 100
  rng : ∀ o ∈ os, o.length ≤ 8 ∧ ∀ t ∈ o, t.1 < n ∧ t.2.1 < n ∧ t.2.2 < n
def trnB (n : Nat) (d : Nat → Nat) (t : T3) : Bool :=
  (List.range (Kt d t)).all (fun k => decide (k < (outK d t k).length)) && decide ((outK d t (Kt d t)).length = Kt d t) &&
  (List.range (Kt d t)).all (fun k => decide (((outK d t k).getD k (0, 0, 0)).1 < n ∧ ((outK d t k).getD k (0, 0, 0)).2.1 < n ∧ ((outK d t k).getD k (0, 0, 0)).2.2 < n ∧ nx1 d ((outK d t k).getD k (0, 0, 0)) ∈ trs3 ∧ nx2 d ((outK d t k).getD k (0, 0, 0)) ∈ trs3)) &&
  (List.range (Kt d t + 1)).all (fun k => (outK d t k).all (fun x => decide (x ∈ trs3)) && decide ((outK d t k).length ≤ 8))
theorem trnB_ok {n : Nat} {d : Nat → Nat} {t : T3} (h : trnB n d t = true) : Trn n d t (Kt d t) := by
  unfold trnB at h
  simp only [Bool.and_eq_true, List.all_eq_true, List.mem_range, decide_eq_true_eq] at h
  obtain ⟨⟨⟨h1, h2⟩, h3⟩, h4⟩ := h
  exact ⟨h1, h2, h3, fun k hk x hx => (h4 k (by omega)).1 x hx, fun k hk => (h4 k (by omega)).2⟩
def triB (n : Nat) (d : Nat → Nat) : Bool := (List.range (n - 1)).all fun a => (List.range (n - 1)).all fun b => (List.range (n - 1)).all fun c => decide ((a + 1, b + 1, c + 1) ∈ trs3) && trnB n d (a + 1, b + 1, c + 1)
theorem trn_all {n : Nat} {d : Nat → Nat} (h : triB n d = true) (a b c : Nat) (ha : a < n - 1) (hb : b < n - 1) (hc : c < n - 1) : (a + 1, b + 1, c + 1) ∈ trs3 ∧ Trn n d (a + 1, b + 1, c + 1) (Kt d (a + 1, b + 1, c + 1)) := by
  unfold triB at h
  simp only [List.all_eq_true, List.mem_range, Bool.and_eq_true, decide_eq_true_eq] at h
  exact ⟨(h a ha b hb c hc).1, trnB_ok (h a ha b hb c hc).2⟩
def flB (n : Nat) (d : Nat → Nat) : Bool := (List.range n).all fun a => (List.range n).all fun b => (List.range n).all fun c => decide ((orbF d (P3 (n - 1) a b c)).flatten.length ≤ 100) && decide ((orbF d (P3 (n - 1) a b c)).length ≤ 100)
theorem fl_all {n : Nat} {d : Nat → Nat} (hn : 1 ≤ n) (h : flB n d = true) (a b c : Nat) (ha : a ≤ n - 1) (hb : b ≤ n - 1) (hc : c ≤ n - 1) : (orbF d (P3 (n - 1) a b c)).flatten.length ≤ 100 ∧ (orbF d (P3 (n - 1) a b c)).length ≤ 100 := by
  unfold flB at h
  simp only [List.all_eq_true, List.mem_range, Bool.and_eq_true, decide_eq_true_eq] at h
  exact h a (by omega) b (by omega) c (by omega)
theorem du3_1 : Du3 1 dI [] := ⟨by decide, by decide, rfl, fun a b c ha => absurd ha (by omega), by decide, by decide, fl_all (by omega) (by decide +kernel), by decide⟩
theorem du3_2 : Du3 2 dI [[(1, 1, 1)]] := ⟨by decide, by decide, rfl, trn_all (by decide +kernel), by decide +kernel, by decide, fl_all (by omega) (by decide +kernel), by decide⟩
theorem du3_I : Du3 3 dI trI := ⟨by decide, by decide, rfl, trn_all (by decide +kernel), by decide +kernel, by decide, fl_all (by omega) (by decide +kernel), by decide⟩
theorem du3_S : Du3 3 dS trS := ⟨by decide, by decide, rfl, trn_all (by decide +kernel), by decide +kernel, by decide, fl_all (by omega) (by decide +kernel), by decide⟩
/-! ### three stores -/
theorem slice_inj {a b : Addr} {n c n' c' : Nat} (h : some (Value.slice (some a) n c) = some (Value.slice (some b) n' c')) : a = b := by
  injection h with h
  injection h with h _ _
  injection h
theorem E3.put_at {w : World} {n x y z : Nat} {f : F3} {fp : Nat → Prop} {r : Int} {g g1 g2 c c1 c2 : Nat} (h : E3 w (.slice (some ⟨g, 0, none⟩) n c) (cub n f) fp) (hx : x < n) (hy : y < n) (hz : z < n) (hr : i64ok r)
    (k0 : w.cell? ⟨g, x, none⟩ = some (.slice (some ⟨g1, 0, none⟩) n c1)) (k1 : w.cell? ⟨g1, y, none⟩ = some (.slice (some ⟨g2, 0, none⟩) n c2)) :
    (∃ u, w.cell? ⟨g2, z, none⟩ = some (.int .i64 u)) ∧ w.frozen? ⟨g2, z, none⟩ = false ∧ fp g2 ∧ E3 (w.setCell ⟨g2, z, none⟩ (.int .i64 r)) (.slice (some ⟨g, 0, none⟩) n c) (cub n (upd f x y z r)) fp := by
  obtain ⟨g', g1', g2', c', c1', c2', e, l0, l1, l2, l3, l4, l5⟩ := E3.put h hx hy hz hr
  have e1 := slice_inj (congrArg some e)
  injection e1 with e1 _ _
  subst e1
  rw [k0] at l0
  have e2 := slice_inj l0
  injection e2 with e2 _ _
  subst e2
  rw [k1] at l1
  have e3 := slice_inj l1
  injection e3 with e3 _ _
  subst e3
  exact ⟨l2, l3, l4, l5⟩
theorem cell_far {w : World} {p q : Addr} {u : Value} {s : Option Addr} {n c : Nat} {i : Int} (h : w.cell? p = some (.int .i64 i)) (h2 : w.cell? q = some (.slice s n c)) : (w.setCell p u).cell? q = some (.slice s n c) := by
  rw [World.cell?_setCell_other w p q u (fun e => by subst e; rw [h] at h2; cases h2)]
  exact h2
/-! ### lists of lists of triples -/
structure ET (w : World) (v : Value) (l : List T3) (fp : Nat → Prop) : Prop where
  own : OwT w 0 v l
  ne : l ≠ []
  fp_ : ∀ b, v.ownBlock = some b → fp b
  bd : ∀ b, fp b → b < w.heap.size
theorem kpT : Kp ET := by
  intro w w' v l fp h hk hs
  refine ⟨?_, h.ne, h.fp_, fun b hb => by have := h.bd b hb; omega⟩
  obtain ⟨h1, h2⟩ := h.own
  refine ⟨h1, ?_⟩
  rcases h2 with h2 | ⟨g, cap, cur, rfl, hg, hh, h3⟩
  · exact .inl h2
  · exact .inr ⟨g, cap, cur, rfl, hg, (hk g (h.fp_ g rfl)).trans hh, h3⟩
theorem elem_bool {v : Value} {z : DataW Unit × List MemPlace} (h : plainElem Try.prog 4 v = some z) : ∃ b, v = .bool b ∧ z = (.lit (.bool b), []) := by
  unfold plainElem at h
  rw [Try.underlying4] at h
  cases v <;> simp at h
  exact ⟨_, rfl, h.symm⟩
theorem Mp3.look {w : World} {b k : Nat} {M : DataW Unit} {sl : List T3} {t : T3} (h : Mp3 w b k M) (hS : Seen M sl) (ht : t ∈ trs3) : (Instr.lookup 46 (.map (some b)) (tv t) false).run Try.prog w = .ok (.bool (decide (t ∈ sl))) w := by
  obtain ⟨v, ps, hrun, hv⟩ := World.ownsMap.lookup h law3 Try.underlying46 (zeroB w) (plainElem_bool Try.underlying4 false) (key3 ht)
  obtain ⟨bb, rfl, hz⟩ := elem_bool hv
  rw [hS.2 t ht] at hz
  injection hz with hz _
  injection hz with hz
  injection hz with hz
  rw [hrun, hz]
theorem Mp3.set {w : World} {b k : Nat} {M : DataW Unit} {sl : List T3} {t : T3} (h : Mp3 w b k M) (hS : Seen M sl) (ht : t ∈ trs3) (hk : k ≤ 1048576) : ∃ w' M', (Instr.mapUpdate 46 (.map (some b)) (tv t) (.bool true)).run Try.prog w = .ok () w' ∧ Mp3 w' b (k + 1) M' ∧ Seen M' (t :: sl) ∧ w.grownBy w' (some b) := by
  obtain ⟨w', h1, h2, h3⟩ := World.ownsMap.update h law3 Try.underlying46 (by unfold maxLen; omega) (key3 ht) (plainElem_bool Try.underlying4 true)
  exact ⟨w', _, h1, h2, hS.put ht, h3⟩
theorem trL_info : (Try.prog.info? 50).map (fun i => (i.zero, i.size, i.bytes)) = some (some (.slice none 0 0), 1, 24) := by kernel_rfl
end Go.Proofs.Yteobaodabjdcaaa
