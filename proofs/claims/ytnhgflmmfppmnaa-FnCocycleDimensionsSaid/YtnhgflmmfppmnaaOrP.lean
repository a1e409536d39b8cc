
/- A region that draws its order, walked once in one given order: what reads no memory is free of the condition on the world; operations from number z on wait for all that read memory. -/
import Derived.Test.YtnhgflmmfppmnaaBa
namespace Go.Proofs.Ytnhgflmmfppmnaa
namespace OrP
open Go Go.RowKit

section
variable {P : Program} {ops : Array Oper} {Q : Exit → Act → World → Prop} {md : Region.Mode} {S : World → Prop} {z : Nat}
/-- It reads no memory. -/
def pureT (o : Oper) : Bool :=
  match o.op with
  | .load .. => false
  | .nilCheck _ => false
  | _ => taken o
def pureI (ops : Array Oper) (i : Nat) : Bool := match ops[i]? with | some o => pureT o | none => false
/-- What is owed behind operation i. -/
def Ob (ops : Array Oper) (S : World → Prop) (z i : Nat) (w w' : World) : Prop := if pureI ops i then (S w → S w') else (i < z → S w')
theorem Ob.pure {i : Nat} (h : pureI ops i = true) (w : World) : Ob ops S z i w w := by unfold Ob; rw [if_pos h]; exact id
theorem Ob.of_S {i : Nat} {w w' : World} (h : S w') : Ob ops S z i w w' := by unfold Ob; split <;> exact fun _ => h
theorem Ob.of_ge {i : Nat} {w w' : World} (hp : pureI ops i = false) (h : ¬ i < z) : Ob ops S z i w w' := by unfold Ob; rw [if_neg (by rw [hp]; exact Bool.false_ne_true)]; exact fun h' => absurd h' h
theorem Ob.out {i : Nat} {w w' : World} (h : Ob ops S z i w w') (hS : S w) (hi : i < z ∨ pureI ops i = true) : S w' := by
  unfold Ob at h
  split at h
  · exact h hS
  · rename_i hp
    rcases hi with hi | hi
    · exact h hi
    · exact absurd hi hp
def AnyP (P : Program) (md : Region.Mode) (ops : Array Oper) (Q : Exit → Act → World → Prop) (S : World → Prop) (z : Nat) : Nat → Array Bool → Act → World → Prop
  | 0, listed, a, w => Region.ready md ops listed = [] ∧ Q .normal a w
  | fuel + 1, listed, a, w =>
    (Region.ready md ops listed = [] → Q .normal a w) ∧
    ∀ i ∈ Region.ready md ops listed, wpOp P ops Q i (fun a' w' => Ob ops S z i w w' ∧ AnyP P md ops Q S z fuel (listed.setIfInBounds i true) a' w') a w
theorem any_of_p : ∀ (fuel : Nat) (listed : Array Bool) (a : Act) (w : World), AnyP P md ops Q S z fuel listed a w → wpAny P md ops Q fuel listed a w
  | 0, _, _, _, h => h
  | fuel + 1, _, _, _, h => ⟨h.1, fun i hi => wpOp_mono (fun a' w' h' => any_of_p fuel _ a' w' h'.2) (h.2 i hi)⟩
theorem anyP_first {i : Nat} {oi : Oper} {v : Value} (T : World → Prop) (hi : ops[i]? = some oi) (hsel : ∀ (j : Nat) (o : Oper) cs b, ops[j]? = some o → o.op ≠ .select cs b)
    (hQ : ∀ c a w, Q (.panic c) (a.put oi.dst v) w → Q (.panic c) a w) (hT : ∀ w, T w → Ob ops S z i w w)
    (hTj : ∀ (listed : Array Bool) (j : Nat) (w w' : World), listed.getD i true = false → j ∈ Region.ready md ops listed → T w → Ob ops S z j w w' → T w') :
    ∀ (fuel : Nat) (listed : Array Bool) (a : Act) (w : World),
      (∀ j oj, ops[j]? = some oj → j ≠ i → listed.getD j true = false → (∀ e ∈ oj.after, Region.binds md e = true → e.on ≠ i) → oi.apart ops oj = true) →
      i ∈ Region.ready md ops listed → YieldsIf P ops T oi v a → T w →
      AnyP P md ops Q S z fuel (listed.setIfInBounds i true) (a.put oi.dst v) w → AnyP P md ops Q S z (fuel + 1) listed a w := by
  intro fuel
  induction fuel with
  | zero =>
    intro listed a w _ hr hy hS H
    refine ⟨fun h => (by rw [h] at hr; cases hr), fun j hj => ?_⟩
    by_cases hji : j = i
    · subst hji; exact hy.wpOp hi hS ⟨hT _ hS, H⟩
    · have := ready_mono hj hji
      rw [H.1] at this
      cases this
  | succ fuel ih =>
    intro listed a w hfree hr hy hS H
    refine ⟨fun h => (by rw [h] at hr; cases hr), fun j hj => ?_⟩
    by_cases hji : j = i
    · subst hji; exact hy.wpOp hi hS ⟨hT _ hS, H⟩
    · have h1 := H.2 j (ready_mono hj hji)
      obtain ⟨hjun, oj, hoj, hall⟩ := mem_ready.1 hj
      have hnot : ∀ e ∈ oj.after, Region.binds md e = true → e.on ≠ i := fun e he hb heq => by
        have h1 := hall e he hb
        have h0 := (mem_ready.1 hr).1
        rw [heq] at h1
        rcases Nat.lt_or_ge i listed.size with h' | h'
        · simp [h'] at h0 h1; rw [h0] at h1; cases h1
        · simp [Array.getElem?_eq_none h'] at h1
      have h2 := wpOp_putIf hoj (hfree j oj hoj hji hjun hnot) (fun cs b => hsel i oi cs b hi) (fun cs b => hsel j oj cs b hoj) hQ hy h1
      have hfree' : ∀ k ok, ops[k]? = some ok → k ≠ i → (listed.setIfInBounds j true).getD k true = false →
          (∀ e ∈ ok.after, Region.binds md e = true → e.on ≠ i) → oi.apart ops ok = true := fun k ok hk hki hun hno => by
        refine hfree k ok hk hki ?_ hno
        by_cases hjk : j = k
        · subst hjk; exact hjun
        · rw [getD_set_ne true hjk] at hun; exact hun
      refine wpOp_mono (fun a' w' h3 => ⟨h3.2.1, ih (listed.setIfInBounds j true) a' w' hfree' (ready_mono hr (Ne.symm hji)) h3.1 (hTj listed j w w' (mem_ready.1 hr).1 hj hS h3.2.1) ?_⟩) h2
      rw [Array.setIfInBounds_comm _ _ hji]
      exact h3.2.2
/-- Each operation from z on waits for number i itself, or reads no memory. -/
def waitedP (md : Region.Mode) (ops : Array Oper) (z i : Nat) : Bool :=
  (List.range ops.size).all fun j => decide (j < z) || match ops[j]? with
    | some o => pureT o || o.after.any fun e => Region.binds md e && e.on == i
    | none => true
theorem lt_or_pure {i j : Nat} {listed : Array Bool} (h : waitedP md ops z i = true) (hi : listed.getD i true = false) (hj : j ∈ Region.ready md ops listed) : j < z ∨ pureI ops j = true := by
  obtain ⟨_, o, ho, hall⟩ := mem_ready.1 hj
  simp only [waitedP, List.all_eq_true, List.mem_range] at h
  have h1 := h j (Array.getElem?_eq_some_iff.1 ho).1
  simp only [ho, Bool.or_eq_true, decide_eq_true_eq] at h1
  rcases h1 with h1 | h1 | h1
  · exact .inl h1
  · exact .inr (by unfold pureI; rw [ho]; exact h1)
  · obtain ⟨e, he, hb⟩ := Array.any_eq_true'.1 h1
    simp only [Bool.and_eq_true, beq_iff_eq] at hb
    have h2 := hall e he hb.1
    rw [hb.2] at h2
    rcases Nat.lt_or_ge i listed.size with h' | h'
    · simp [h'] at hi h2; rw [hi] at h2; cases h2
    · simp [Array.getElem?_eq_none h'] at h2
def takes (z : Nat) (o : Oper) (i : Nat) : Bool := pureT o || (taken o && decide (i < z))
/-- The order l may be walked. -/
def orderOk (md : Region.Mode) (ops : Array Oper) (z : Nat) : List Nat → Array Bool → Bool
  | [], listed => (Region.ready md ops listed).isEmpty
  | i :: l, listed =>
    (match ops[i]? with
      | some o => if takes z o i then (Region.ready md ops listed).contains i && Region.free md ops listed i && (pureT o || waitedP md ops z i) else Region.ready md ops listed == [i] && (decide (i < z) || l.all fun k => decide (z ≤ k) || pureI ops k)
      | none => false) && orderOk md ops z l (listed.setIfInBounds i true)
/-- The walk in the order l. -/
def OrdW (P : Program) (ops : Array Oper) (Q : Exit → Act → World → Prop) (S : World → Prop) (z : Nat) : List Nat → Act → World → Prop
  | [], a, w => Q .normal a w
  | i :: l, a, w => ∀ o, ops[i]? = some o →
    if takes z o i then ∃ v, YieldsIf P ops (if pureT o then fun _ => True else S) o v a ∧ OrdW P ops Q S z l (a.put o.dst v) w
    else wpOp P ops Q i (fun a' w' => (i < z → S w') ∧ OrdW P ops Q S z l a' w') a w
theorem ord_sound (hs : Region.noSelect ops = true) (hQ : ∀ c a d v w, Q (.panic c) (Act.put a (some d) v) w → Q (.panic c) a w) :
    ∀ (l : List Nat) (listed : Array Bool) (a : Act) (w : World), orderOk md ops z l listed = true → ((∃ i ∈ l, i < z ∧ pureI ops i = false) → S w) → OrdW P ops Q S z l a w → AnyP P md ops Q S z l.length listed a w := by
  intro l
  induction l with
  | nil =>
    intro listed a w hok _ h
    have : Region.ready md ops listed = [] := by simpa [orderOk] using hok
    exact ⟨this, h⟩
  | cons i l ih =>
    intro listed a w hok hS h
    simp only [orderOk, Bool.and_eq_true] at hok
    obtain ⟨hok, hrest⟩ := hok
    cases ho : ops[i]? with
    | none => rw [ho] at hok; cases hok
    | some o =>
      rw [ho] at hok
      have h1 := h o ho
      have hQ' : ∀ v c a w, Q (.panic c) (a.put o.dst v) w → Q (.panic c) a w := fun v c a w hp => by cases hd : o.dst with | none => rw [hd] at hp; exact hp | some d => rw [hd] at hp; exact hQ c a d v w hp
      by_cases ht : takes z o i = true
      · simp only [ht, if_true] at hok h1
        obtain ⟨v, hy, hw⟩ := h1
        rw [Bool.and_eq_true, Bool.and_eq_true] at hok
        by_cases hp : pureT o = true
        · rw [if_pos hp] at hy
          have hpi : pureI ops i = true := by unfold pureI; rw [ho]; exact hp
          exact anyP_first (fun _ => True) ho (Region.noSelect_spec hs) (hQ' v) (fun w _ => Ob.pure hpi w) (fun _ _ _ _ _ _ _ _ => trivial) l.length listed a w (Region.free_spec ho hok.1.2) (by simpa using hok.1.1) hy trivial
            (ih _ _ _ hrest (fun ⟨j, hj, hjz⟩ => hS ⟨j, by simp [hj], hjz⟩) hw)
        · rw [if_neg hp] at hy
          have hp' : pureT o = false := by simpa using hp
          have hpi : pureI ops i = false := by unfold pureI; rw [ho]; exact hp'
          have hiz : i < z := by unfold takes at ht; rw [hp'] at ht; simp at ht; exact ht.2
          have hwt : waitedP md ops z i = true := by have := hok.2; rw [hp'] at this; simpa using this
          have hSw : S w := hS ⟨i, by simp, hiz, hpi⟩
          exact anyP_first S ho (Region.noSelect_spec hs) (hQ' v) (fun w h => Ob.of_S h) (fun listed j w w' hun hj hSw hO => hO.out hSw (lt_or_pure hwt hun hj)) l.length listed a w (Region.free_spec ho hok.1.2) (by simpa using hok.1.1) hy hSw
            (ih _ _ _ hrest (fun ⟨j, hj, hjz⟩ => hS ⟨j, by simp [hj], hjz⟩) hw)
      · simp only [ht, if_false, Bool.false_eq_true] at hok h1
        rw [Bool.and_eq_true] at hok
        have hr : Region.ready md ops listed = [i] := by simpa using hok.1
        have hpi : pureI ops i = false := by
          unfold pureI; rw [ho]
          unfold takes at ht
          simp only [Bool.or_eq_true, not_or] at ht
          simpa using ht.1
        refine ⟨fun h0 => (by rw [hr] at h0; cases h0), fun j hj => ?_⟩
        rw [hr] at hj
        obtain rfl : j = i := by simpa using hj
        refine wpOp_mono (fun a' w' h' => ⟨?_, ih _ _ _ hrest (fun ⟨k, hk, hkz, hkp⟩ => ?_) h'.2⟩) h1
        · unfold Ob; rw [if_neg (by rw [hpi]; exact Bool.false_ne_true)]; exact h'.1
        · have h2 := hok.2
          rw [Bool.or_eq_true] at h2
          rcases h2 with h2 | h2
          · exact h'.1 (by simpa using h2)
          · rw [List.all_eq_true] at h2
            have := h2 k hk
            rw [hkp] at this
            simp only [Bool.or_false, decide_eq_true_eq] at this
            omega
/-- The beginning. -/
theorem wp_region_ord {id : Nat} {a : Act} {w : World} (l : List Nat) (z : Nat) (S : World → Prop) (hm : P.follows .mixedOrders = true) (hs : Region.noSelect ops = true)
    (hok : (l.length == ops.size && orderOk .any ops z l (Array.replicate ops.size false)) = true)
    (hQ : ∀ c a d v w, Q (.panic c) (Act.put a (some d) v) w → Q (.panic c) a w) (hS : S w.drew) (h : OrdW P ops Q S z l a w.drew) : (Code.region id ops true).wp P Q a w := by
  rw [Bool.and_eq_true] at hok
  have hl : l.length = ops.size := by simpa using hok.1
  have h1 := any_of_p _ _ _ _ (ord_sound hs hQ l _ a w.drew hok.2 (fun _ => hS) h)
  rw [hl] at h1
  exact wp_region_any hm h1
theorem wp_region_be {id : Nat} {a : Act} {w : World} (l : List Nat) (z : Nat) (B : Nat) (W : World) (hm : P.follows .mixedOrders = true) (hs : Region.noSelect ops = true)
    (hok : (l.length == ops.size && orderOk .any ops z l (Array.replicate ops.size false)) = true)
    (hQ : ∀ c a d v w, Q (.panic c) (Act.put a (some d) v) w → Q (.panic c) a w) (hS : Below B W w) (h : ∀ wd, Below B W wd → OrdW P ops Q (Below B W) z l a wd) : (Code.region id ops true).wp P Q a w :=
  wp_region_ord l z (Below B W) hm hs hok hQ hS.drew (h _ hS.drew)
theorem ord_nil {a : Act} {w : World} (h : Q .normal a w) : OrdW P ops Q S z [] a w := h
theorem ord_tk {i : Nat} {l : List Nat} {a : Act} {w : World} {o : Oper} {v : Value} {d : Nat} (ho : ops[i]? = some o) (hd : o.dst = some d) (ht : takes z o i = true) (hp : pureT o = false)
    (hw : Region.wanted o (yielded ops a.tmps) = true) (hy : ∀ w, S w → (execOp a.eval o).run P w = .ok (.value v) w) (h : OrdW P ops Q S z l (a.put (some d) v) w) : OrdW P ops Q S z (i :: l) a w := by
  intro o' ho'
  obtain rfl : o = o' := by rw [ho] at ho'; exact Option.some.inj ho'
  rw [if_pos ht, if_neg (by rw [hp]; exact Bool.false_ne_true)]
  exact ⟨v, .inl ⟨hw, hy⟩, hd ▸ h⟩
theorem ord_pt {i : Nat} {l : List Nat} {a : Act} {w : World} {o : Oper} {v : Value} {d : Nat} (ho : ops[i]? = some o) (hd : o.dst = some d) (ht : takes z o i = true) (hp : pureT o = true)
    (hw : Region.wanted o (yielded ops a.tmps) = true) (hy : ∀ w, True → (execOp a.eval o).run P w = .ok (.value v) w) (h : OrdW P ops Q S z l (a.put (some d) v) w) : OrdW P ops Q S z (i :: l) a w := by
  intro o' ho'
  obtain rfl : o = o' := by rw [ho] at ho'; exact Option.some.inj ho'
  rw [if_pos ht, if_pos hp]
  exact ⟨v, .inl ⟨hw, hy⟩, hd ▸ h⟩
theorem ord_skip {i : Nat} {l : List Nat} {a : Act} {w : World} {o : Oper} {d : Nat} (ho : ops[i]? = some o) (hd : o.dst = some d)
    (hw : Region.wanted o (yielded ops a.tmps) = false) (hS : i < z → S w) (h : OrdW P ops Q S z l (a.put (some d) undef) w) : OrdW P ops Q S z (i :: l) a w := by
  intro o' ho'
  obtain rfl : o = o' := by rw [ho] at ho'; exact Option.some.inj ho'
  rw [← hd] at h
  by_cases ht : takes z o i = true
  · rw [if_pos ht]; exact ⟨undef, .inr ⟨hw, rfl⟩, h⟩
  · rw [if_neg ht]; unfold wpOp; simp only [ho, hw, Bool.false_eq_true, if_false]; exact ⟨hS, h⟩
theorem ord_do {i : Nat} {l : List Nat} {a : Act} {w : World} {o : Oper} (ho : ops[i]? = some o) (ht : takes z o i = false) (hw : Region.wanted o (yielded ops a.tmps) = true)
    (h : ∀ K : Act → World → Prop, Shut (∀ a w, (i < z → S w) → OrdW P ops Q S z l a w → K a w) → Oper.wp P o a w K Q) : OrdW P ops Q S z (i :: l) a w := by
  intro o' ho'
  obtain rfl : o = o' := by rw [ho] at ho'; exact Option.some.inj ho'
  rw [if_neg (by rw [ht]; exact Bool.false_ne_true)]
  unfold wpOp
  simp only [ho, hw, if_true]
  exact .inl (h _ (fun a' w' h1 h2 => ⟨h1, h2⟩))
end
end OrP
end Go.Proofs.Ytnhgflmmfppmnaa
