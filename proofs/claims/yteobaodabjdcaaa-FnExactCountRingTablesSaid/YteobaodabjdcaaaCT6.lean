
/- The walk of l07Grow: a cube of the call's own is filled number by number; all rings that result are put behind a list, of which the length alone is told. -/
import Derived.Test.YteobaodabjdcaaaRS2
import Derived.Test.YteobaodabjdcaaaCT2
import Derived.Test.YteobaodabjdcaaaCT5
namespace Go.Proofs.Yteobaodabjdcaaa
open Go Go.RowKit
set_option linter.unusedSimpArgs false
set_option linter.unusedVariables false
set_option maxRecDepth 100000
theorem ring_info : (Try.prog.info? 31).map (fun i => (i.zero, i.size, i.bytes)) = some (some (.agg #[.slice none 0 0]), 1, 24) := by kernel_rfl
/-- append of one element that is one cell wide, whatever its zero value is. -/
theorem list_pushA {ops : Array Oper} {rest : List Oper} {o : Oper} {a : Act} {Q : Exit → Act → World → Prop} (st t : TypeId) (z : Value) (bytes : Nat) (hu : Try.prog.underlying st = some (.slice t)) (hinfo : (Try.prog.info? t).map (fun i => (i.zero, i.size, i.bytes)) = some (some z, 1, bytes)) (hby : bytes ≤ 24) (hzc : z.cells.size = 1)
    (w : World) (hgd : o.guard = none) (s x : Operand)
    (ho : o.op = .call { callee := .builtin .append, args := #[s, x], argTypes := #[st, st] })
    (B : Nat) (v : Value) (us : List Value) (hs : a.eval s = v) (hown : OwV w B t v us) (y : Value) (hy : y.oneCell' = true) (H T : Nat) (hx : a.eval x = .slice (some ⟨H, 0, none⟩) 1 1) (hb : Blk w H T #[y])
    (hn : us.length ≤ 1048576) (hB : B ≤ w.heap.size) (hH : w.heap.size = H + 1)
    (h : ∀ g cap w', PushV t w B v us y H g cap w' → wpList Try.prog ops Q rest (a.put o.dst (.slice (some ⟨g, 0, none⟩) (us.length + 1) cap)) w') :
    wpList Try.prog ops Q (o :: rest) a w := by
  obtain ⟨i0, hi0, hz0, hz1, hz2⟩ := info_parts hinfo
  refine wpList_append_lies w hgd s x _ ho B t i0 _ 1 bytes hu hi0 hz0 hz1 hz2 hzc (by omega) v us.length _ hs hown ⟨H, 0, none⟩ 1 1 [y] hx rfl
    (World.news_of_block (cs := #[y]) hb) (by simpa using hy) (by omega) (by unfold maxLen; omega) (by have h1 : (us.length + 1) * bytes ≤ (us.length + 1) * 24 := Nat.mul_le_mul_left _ hby; omega) hB (H + 1) hH ?_
  intro g cap w' h2 h3 h4 h5
  refine h g cap w' ⟨?_, h3, h4, h5⟩
  unfold OwV
  simpa using h2
/-! ### plain -/
theorem upd_upd (f : F3) (x y z : Nat) (u v : Int) : upd (upd f x y z u) x y z v = upd f x y z v := by
  funext a b c; unfold upd; split <;> simp_all
theorem upd_same (f : F3) (x y z : Nat) (v : Int) (h : f x y z = v) : upd f x y z v = f := by
  funext a b c; unfold upd; split
  · rename_i e; obtain ⟨rfl, rfl, rfl⟩ := e; exact h.symm
  · rfl
theorem t3_cub0 (n : Nat) (f g : F3) (i j : Nat) (h : f i j 0 = g i j 0) : t3 (cub n f) i j 0 = t3 (cub n g) i j 0 := by
  by_cases hi : i < n
  · by_cases hj : j < n
    · rw [t3_cbA hi hj (by omega), t3_cbA hi hj (by omega), h]
    · simp [t3, cub, mat, gi, hi, hj]
  · simp [t3, cub, mat, gi, hi]
theorem du_upd (n : Nat) (f : F3) (x y z : Nat) (v : Int) (hz : 1 ≤ z) (i : Nat) : du (cub n (upd f x y z v)) i = du (cub n f) i := by
  unfold du
  have e : (fun j => t3 (cub n (upd f x y z v)) i j 0) = fun j => t3 (cub n f) i j 0 := by
    funext j
    refine t3_cub0 n _ _ i j ?_
    unfold upd
    rw [if_neg (by omega)]
  rw [e, cb_len, cb_len]
theorem sumN_le {f : Nat → Nat} {c : Nat} : ∀ {k : Nat}, (∀ v, v < k → f v ≤ c) → sumN f k ≤ k * c
  | 0, _ => by simp [sumN]
  | k + 1, h => by
    unfold sumN
    have := sumN_le (k := k) fun v hv => h v (by omega)
    have := h k (by omega)
    rw [Nat.succ_mul]; omega
theorem growC_le (n m : Nat) : ∀ (r p : Nat) (f : F3), growC n m r p f ≤ (m + 1) ^ r
  | 0, p, f => by unfold growC okR3; split <;> simp
  | r + 1, p, f => by
    unfold growC
    refine Nat.le_trans (sumN_le (c := (m + 1) ^ r) fun v _ => ?_) (by rw [Nat.pow_succ, Nat.mul_comm]; exact Nat.le_refl _)
    split
    · exact growC_le n m r _ _
    · exact Nat.zero_le _
theorem cub_cb {n : Nat} {f : F3} (h1 : 1 ≤ n) (h2 : n ≤ 16) (hf : ∀ a b c, 0 ≤ f a b c ∧ f a b c ≤ 1000) : IsCb (cub n f) := by
  refine ⟨by rw [cb_len]; exact h1, by rw [cb_len]; exact h2, fun m hm => ?_⟩
  rw [cb_len]
  unfold cub at hm
  obtain ⟨x, hx, rfl⟩ := List.mem_map.1 hm
  refine ⟨mat_len _ _, fun r hr => ?_⟩
  unfold mat at hr
  obtain ⟨y, hy, rfl⟩ := List.mem_map.1 hr
  refine ⟨by simp, fun v hv => ?_⟩
  obtain ⟨z, hz, rfl⟩ := List.mem_map.1 hv
  exact hf x y z
theorem cub_rows {n : Nat} {f : F3} : ∀ m ∈ cub n f, m.length = n ∧ ∀ r ∈ m, r.length = n := by
  intro m hm
  unfold cub at hm
  obtain ⟨x, hx, rfl⟩ := List.mem_map.1 hm
  refine ⟨mat_len _ _, fun r hr => ?_⟩
  unfold mat at hr
  obtain ⟨y, hy, rfl⟩ := List.mem_map.1 hr
  simp
/-- A list of rings of the call's own, of so many; it lies apart from some blocks. -/
def OwR (w : World) (B : Nat) (v : Value) (len : Nat) (fp : Nat → Prop) : Prop := ∃ us : List Value, us.length = len ∧ OwV w B 31 v us ∧ ∀ b, v.ownBlock = some b → ¬ fp b
theorem OwR.bel {w w' : World} {B : Nat} {v : Value} {len : Nat} {fp : Nat → Prop} (h : OwR w B v len fp) (hb : Below w.heap.size w w') : OwR w' B v len fp := by
  obtain ⟨us, h1, h2, h3⟩ := h
  exact ⟨us, h1, h2.bel hb, h3⟩
theorem OwR.wr {w w' : World} {B : Nat} {v : Value} {len : Nat} {fp : Nat → Prop} (h : OwR w B v len fp) (hw : Wr w w' fp) : OwR w' B v len fp := by
  obtain ⟨us, h1, h2, h3⟩ := h
  exact ⟨us, h1, h2.keep fun b hb => hw.block b (h2.lt b hb).2 (h3 b hb), h3⟩
theorem OwR.wrl {w w' : World} {B : Nat} {v : Value} {len : Nat} {fp kp : Nat → Prop} (h : OwR w B v len (fun b => fp b ∨ kp b)) (hw : Wr w w' fp) : OwR w' B v len (fun b => fp b ∨ kp b) := h.wr (hw.mono fun b hb => .inl hb)
theorem OwR.val {w : World} {B : Nat} {v : Value} {len : Nat} {fp : Nat → Prop} (h : OwR w B v len fp) : ∃ A c, v = .slice A len c := by
  obtain ⟨us, h1, h2, h3⟩ := h
  rcases h2.form with ⟨rfl, rfl⟩ | ⟨g, cap, rfl, _⟩
  · rw [← h1]; exact ⟨none, 0, rfl⟩
  · rw [← h1]; exact ⟨_, cap, rfl⟩
theorem E3.bel' {w w' : World} {v : Value} {x : List (List (List Int))} {fp : Nat → Prop} (h : E3 w v x fp) (hb : Below w.heap.size w w') : E3 w' v x fp := h.below hb
theorem view_cub {w : World} {v : Value} {n : Nat} {f : F3} {fp : Nat → Prop} (h : E3 w v (cub n f) fp) (hn : 0 < n) : ∃ b off c b1 o1 c1 b2 o2 c2, v = .slice (some ⟨b, off, none⟩) n c ∧ n ≤ c ∧ View w w.heap.size n b off b1 o1 c1 b2 o2 c2 (t3 (cub n f)) := by
  obtain ⟨A, c, rfl, hs⟩ := E3.sl3 h
  rw [cb_len] at hs ⊢
  obtain ⟨b, off, b1, o1, c1, b2, o2, c2, rfl, hV⟩ := view_of hs hn cub_rows
  exact ⟨b, off, c, b1, o1, c1, b2, o2, c2, rfl, hs.cap, hV⟩
/-- What l07Grow returns. -/
def GrP (w : World) (B : Nat) (vT : Value) (n : Nat) (f : F3) (fp kp : Nat → Prop) (len : Nat) (e : Ending) (w' : World) : Prop := ∃ v, e = .returned v ∧ OwR w' B v len (fun b => fp b ∨ kp b) ∧ E3 w' vT (cub n f) fp ∧ Below B w w' ∧ ∀ b, kp b → w'.heap[b]? = w.heap[b]?
end Go.Proofs.Yteobaodabjdcaaa
