
/- A region that draws its order, walked once in one given order: what reads no memory is free of the condition on the world; operations from number z on wait for all that read memory. Regions that draw their order, walked over a tree of orders: the listed soft operations read no memory and need no condition on the world; every other order of the rest is walked. Regions that draw their order, by a tree of orders, where an operation may wait for a load through other operations. -/
import Derived.Test.YtonehmjoolflfaaGreatDoorBa
namespace Go.Proofs.YtonehmjoolflfaaGreatDoor
open Go Go.RowKit
set_option linter.unusedVariables false
namespace OrP
open Go Go.RowKit

section
variable {P : Program} {ops : Array Oper} {Q : Exit → Act → World → Prop} {md : Region.Mode} {S : World → Prop} {z : Nat}
/-- It reads no memory. -/
def pureT (o : Oper) : Bool :=
  match o.op with
  | .load .. => false
  | .nilCheck _ => false
  | _ => taken o
def pureI (ops : Array Oper) (i : Nat) : Bool := match ops[i]? with | some o => pureT o | none => false
/-- What is owed behind operation i. -/
def Ob (ops : Array Oper) (S : World → Prop) (z i : Nat) (w w' : World) : Prop := if pureI ops i then (S w → S w') else (i < z → S w')
theorem Ob.pure {i : Nat} (h : pureI ops i = true) (w : World) : Ob ops S z i w w := by unfold Ob; rw [if_pos h]; exact id
theorem Ob.of_S {i : Nat} {w w' : World} (h : S w') : Ob ops S z i w w' := by unfold Ob; split <;> exact fun _ => h
theorem Ob.out {i : Nat} {w w' : World} (h : Ob ops S z i w w') (hS : S w) (hi : i < z ∨ pureI ops i = true) : S w' := by
  unfold Ob at h
  split at h
  · exact h hS
  · rename_i hp
    rcases hi with hi | hi
    · exact h hi
    · exact absurd hi hp
def AnyP (P : Program) (md : Region.Mode) (ops : Array Oper) (Q : Exit → Act → World → Prop) (S : World → Prop) (z : Nat) : Nat → Array Bool → Act → World → Prop
  | 0, listed, a, w => Region.ready md ops listed = [] ∧ Q .normal a w
  | fuel + 1, listed, a, w =>
    (Region.ready md ops listed = [] → Q .normal a w) ∧
    ∀ i ∈ Region.ready md ops listed, wpOp P ops Q i (fun a' w' => Ob ops S z i w w' ∧ AnyP P md ops Q S z fuel (listed.setIfInBounds i true) a' w') a w
theorem any_of_p : ∀ (fuel : Nat) (listed : Array Bool) (a : Act) (w : World), AnyP P md ops Q S z fuel listed a w → wpAny P md ops Q fuel listed a w
  | 0, _, _, _, h => h
  | fuel + 1, _, _, _, h => ⟨h.1, fun i hi => wpOp_mono (fun a' w' h' => any_of_p fuel _ a' w' h'.2) (h.2 i hi)⟩
theorem anyP_first {i : Nat} {oi : Oper} {v : Value} (T : World → Prop) (hi : ops[i]? = some oi) (hsel : ∀ (j : Nat) (o : Oper) cs b, ops[j]? = some o → o.op ≠ .select cs b)
    (hQ : ∀ c a w, Q (.panic c) (a.put oi.dst v) w → Q (.panic c) a w) (hT : ∀ w, T w → Ob ops S z i w w)
    (hTj : ∀ (listed : Array Bool) (j : Nat) (w w' : World), listed.getD i true = false → j ∈ Region.ready md ops listed → T w → Ob ops S z j w w' → T w') :
    ∀ (fuel : Nat) (listed : Array Bool) (a : Act) (w : World),
      (∀ j oj, ops[j]? = some oj → j ≠ i → listed.getD j true = false → (∀ e ∈ oj.after, Region.binds md e = true → e.on ≠ i) → oi.apart ops oj = true) →
      i ∈ Region.ready md ops listed → YieldsIf P ops T oi v a → T w →
      AnyP P md ops Q S z fuel (listed.setIfInBounds i true) (a.put oi.dst v) w → AnyP P md ops Q S z (fuel + 1) listed a w := by
  intro fuel
  induction fuel with
  | zero =>
    intro listed a w _ hr hy hS H
    refine ⟨fun h => (by rw [h] at hr; cases hr), fun j hj => ?_⟩
    by_cases hji : j = i
    · subst hji; exact hy.wpOp hi hS ⟨hT _ hS, H⟩
    · have := ready_mono hj hji
      rw [H.1] at this
      cases this
  | succ fuel ih =>
    intro listed a w hfree hr hy hS H
    refine ⟨fun h => (by rw [h] at hr; cases hr), fun j hj => ?_⟩
    by_cases hji : j = i
    · subst hji; exact hy.wpOp hi hS ⟨hT _ hS, H⟩
    · have h1 := H.2 j (ready_mono hj hji)
      obtain ⟨hjun, oj, hoj, hall⟩ := mem_ready.1 hj
      have hnot : ∀ e ∈ oj.after, Region.binds md e = true → e.on ≠ i := fun e he hb heq => by
        have h1 := hall e he hb
        have h0 := (mem_ready.1 hr).1
        rw [heq] at h1
        rcases Nat.lt_or_ge i listed.size with h' | h'
        · simp [h'] at h0 h1; rw [h0] at h1; cases h1
        · simp [Array.getElem?_eq_none h'] at h1
      have h2 := wpOp_putIf hoj (hfree j oj hoj hji hjun hnot) (fun cs b => hsel i oi cs b hi) (fun cs b => hsel j oj cs b hoj) hQ hy h1
      have hfree' : ∀ k ok, ops[k]? = some ok → k ≠ i → (listed.setIfInBounds j true).getD k true = false →
          (∀ e ∈ ok.after, Region.binds md e = true → e.on ≠ i) → oi.apart ops ok = true := fun k ok hk hki hun hno => by
        refine hfree k ok hk hki ?_ hno
        by_cases hjk : j = k
        · subst hjk; exact hjun
        · rw [getD_set_ne true hjk] at hun; exact hun
      refine wpOp_mono (fun a' w' h3 => ⟨h3.2.1, ih (listed.setIfInBounds j true) a' w' hfree' (ready_mono hr (Ne.symm hji)) h3.1 (hTj listed j w w' (mem_ready.1 hr).1 hj hS h3.2.1) ?_⟩) h2
      rw [Array.setIfInBounds_comm _ _ hji]
      exact h3.2.2
/-- Each operation from z on waits for number i itself, or reads no memory. -/
def waitedP (md : Region.Mode) (ops : Array Oper) (z i : Nat) : Bool :=
  (List.range ops.size).all fun j => decide (j < z) || match ops[j]? with
    | some o => pureT o || o.after.any fun e => Region.binds md e && e.on == i
    | none => true
theorem lt_or_pure {i j : Nat} {listed : Array Bool} (h : waitedP md ops z i = true) (hi : listed.getD i true = false) (hj : j ∈ Region.ready md ops listed) : j < z ∨ pureI ops j = true := by
  obtain ⟨_, o, ho, hall⟩ := mem_ready.1 hj
  simp only [waitedP, List.all_eq_true, List.mem_range] at h
  have h1 := h j (Array.getElem?_eq_some_iff.1 ho).1
  simp only [ho, Bool.or_eq_true, decide_eq_true_eq] at h1
  rcases h1 with h1 | h1 | h1
  · exact .inl h1
  · exact .inr (by unfold pureI; rw [ho]; exact h1)
  · obtain ⟨e, he, hb⟩ := Array.any_eq_true'.1 h1
    simp only [Bool.and_eq_true, beq_iff_eq] at hb
    have h2 := hall e he hb.1
    rw [hb.2] at h2
    rcases Nat.lt_or_ge i listed.size with h' | h'
    · simp [h'] at hi h2; rw [hi] at h2; cases h2
    · simp [Array.getElem?_eq_none h'] at h2
def takes (z : Nat) (o : Oper) (i : Nat) : Bool := pureT o || (taken o && decide (i < z))
/-- The order l may be walked. -/
def orderOk (md : Region.Mode) (ops : Array Oper) (z : Nat) : List Nat → Array Bool → Bool
  | [], listed => (Region.ready md ops listed).isEmpty
  | i :: l, listed =>
    (match ops[i]? with
      | some o => if takes z o i then (Region.ready md ops listed).contains i && Region.free md ops listed i && (pureT o || waitedP md ops z i) else Region.ready md ops listed == [i] && (decide (i < z) || l.all fun k => decide (z ≤ k) || pureI ops k)
      | none => false) && orderOk md ops z l (listed.setIfInBounds i true)
/-- The walk in the order l. -/
def OrdW (P : Program) (ops : Array Oper) (Q : Exit → Act → World → Prop) (S : World → Prop) (z : Nat) : List Nat → Act → World → Prop
  | [], a, w => Q .normal a w
  | i :: l, a, w => ∀ o, ops[i]? = some o →
    if takes z o i then ∃ v, YieldsIf P ops (if pureT o then fun _ => True else S) o v a ∧ OrdW P ops Q S z l (a.put o.dst v) w
    else wpOp P ops Q i (fun a' w' => (i < z → S w') ∧ OrdW P ops Q S z l a' w') a w
theorem ord_sound (hs : Region.noSelect ops = true) (hQ : ∀ c a d v w, Q (.panic c) (Act.put a (some d) v) w → Q (.panic c) a w) :
    ∀ (l : List Nat) (listed : Array Bool) (a : Act) (w : World), orderOk md ops z l listed = true → ((∃ i ∈ l, i < z ∧ pureI ops i = false) → S w) → OrdW P ops Q S z l a w → AnyP P md ops Q S z l.length listed a w := by
  intro l
  induction l with
  | nil =>
    intro listed a w hok _ h
    have : Region.ready md ops listed = [] := by simpa [orderOk] using hok
    exact ⟨this, h⟩
  | cons i l ih =>
    intro listed a w hok hS h
    simp only [orderOk, Bool.and_eq_true] at hok
    obtain ⟨hok, hrest⟩ := hok
    cases ho : ops[i]? with
    | none => rw [ho] at hok; cases hok
    | some o =>
      rw [ho] at hok
      have h1 := h o ho
      have hQ' : ∀ v c a w, Q (.panic c) (a.put o.dst v) w → Q (.panic c) a w := fun v c a w hp => by cases hd : o.dst with | none => rw [hd] at hp; exact hp | some d => rw [hd] at hp; exact hQ c a d v w hp
      by_cases ht : takes z o i = true
      · simp only [ht, if_true] at hok h1
        obtain ⟨v, hy, hw⟩ := h1
        rw [Bool.and_eq_true, Bool.and_eq_true] at hok
        by_cases hp : pureT o = true
        · rw [if_pos hp] at hy
          have hpi : pureI ops i = true := by unfold pureI; rw [ho]; exact hp
          exact anyP_first (fun _ => True) ho (Region.noSelect_spec hs) (hQ' v) (fun w _ => Ob.pure hpi w) (fun _ _ _ _ _ _ _ _ => trivial) l.length listed a w (Region.free_spec ho hok.1.2) (by simpa using hok.1.1) hy trivial
            (ih _ _ _ hrest (fun ⟨j, hj, hjz⟩ => hS ⟨j, by simp [hj], hjz⟩) hw)
        · rw [if_neg hp] at hy
          have hp' : pureT o = false := by simpa using hp
          have hpi : pureI ops i = false := by unfold pureI; rw [ho]; exact hp'
          have hiz : i < z := by unfold takes at ht; rw [hp'] at ht; simp at ht; exact ht.2
          have hwt : waitedP md ops z i = true := by have := hok.2; rw [hp'] at this; simpa using this
          have hSw : S w := hS ⟨i, by simp, hiz, hpi⟩
          exact anyP_first S ho (Region.noSelect_spec hs) (hQ' v) (fun w h => Ob.of_S h) (fun listed j w w' hun hj hSw hO => hO.out hSw (lt_or_pure hwt hun hj)) l.length listed a w (Region.free_spec ho hok.1.2) (by simpa using hok.1.1) hy hSw
            (ih _ _ _ hrest (fun ⟨j, hj, hjz⟩ => hS ⟨j, by simp [hj], hjz⟩) hw)
      · simp only [ht, if_false, Bool.false_eq_true] at hok h1
        rw [Bool.and_eq_true] at hok
        have hr : Region.ready md ops listed = [i] := by simpa using hok.1
        have hpi : pureI ops i = false := by
          unfold pureI; rw [ho]
          unfold takes at ht
          simp only [Bool.or_eq_true, not_or] at ht
          simpa using ht.1
        refine ⟨fun h0 => (by rw [hr] at h0; cases h0), fun j hj => ?_⟩
        rw [hr] at hj
        obtain rfl : j = i := by simpa using hj
        refine wpOp_mono (fun a' w' h' => ⟨?_, ih _ _ _ hrest (fun ⟨k, hk, hkz, hkp⟩ => ?_) h'.2⟩) h1
        · unfold Ob; rw [if_neg (by rw [hpi]; exact Bool.false_ne_true)]; exact h'.1
        · have h2 := hok.2
          rw [Bool.or_eq_true] at h2
          rcases h2 with h2 | h2
          · exact h'.1 (by simpa using h2)
          · rw [List.all_eq_true] at h2
            have := h2 k hk
            rw [hkp] at this
            simp only [Bool.or_false, decide_eq_true_eq] at this
            omega
/-- The beginning. -/
theorem wp_region_ord {id : Nat} {a : Act} {w : World} (l : List Nat) (z : Nat) (S : World → Prop) (hm : P.follows .mixedOrders = true) (hs : Region.noSelect ops = true)
    (hok : (l.length == ops.size && orderOk .any ops z l (Array.replicate ops.size false)) = true)
    (hQ : ∀ c a d v w, Q (.panic c) (Act.put a (some d) v) w → Q (.panic c) a w) (hS : S w.drew) (h : OrdW P ops Q S z l a w.drew) : (Code.region id ops true).wp P Q a w := by
  rw [Bool.and_eq_true] at hok
  have hl : l.length = ops.size := by simpa using hok.1
  have h1 := any_of_p _ _ _ _ (ord_sound hs hQ l _ a w.drew hok.2 (fun _ => hS) h)
  rw [hl] at h1
  exact wp_region_any hm h1
theorem wp_region_be {id : Nat} {a : Act} {w : World} (l : List Nat) (z : Nat) (B : Nat) (W : World) (hm : P.follows .mixedOrders = true) (hs : Region.noSelect ops = true)
    (hok : (l.length == ops.size && orderOk .any ops z l (Array.replicate ops.size false)) = true)
    (hQ : ∀ c a d v w, Q (.panic c) (Act.put a (some d) v) w → Q (.panic c) a w) (hS : Below B W w) (h : ∀ wd, Below B W wd → OrdW P ops Q (Below B W) z l a wd) : (Code.region id ops true).wp P Q a w :=
  wp_region_ord l z (Below B W) hm hs hok hQ hS.drew (h _ hS.drew)
theorem ord_nil {a : Act} {w : World} (h : Q .normal a w) : OrdW P ops Q S z [] a w := h
theorem ord_tk {i : Nat} {l : List Nat} {a : Act} {w : World} {o : Oper} {v : Value} {d : Nat} (ho : ops[i]? = some o) (hd : o.dst = some d) (ht : takes z o i = true) (hp : pureT o = false)
    (hw : Region.wanted o (yielded ops a.tmps) = true) (hy : ∀ w, S w → (execOp a.eval o).run P w = .ok (.value v) w) (h : OrdW P ops Q S z l (a.put (some d) v) w) : OrdW P ops Q S z (i :: l) a w := by
  intro o' ho'
  obtain rfl : o = o' := by rw [ho] at ho'; exact Option.some.inj ho'
  rw [if_pos ht, if_neg (by rw [hp]; exact Bool.false_ne_true)]
  exact ⟨v, .inl ⟨hw, hy⟩, hd ▸ h⟩
theorem ord_pt {i : Nat} {l : List Nat} {a : Act} {w : World} {o : Oper} {v : Value} {d : Nat} (ho : ops[i]? = some o) (hd : o.dst = some d) (ht : takes z o i = true) (hp : pureT o = true)
    (hw : Region.wanted o (yielded ops a.tmps) = true) (hy : ∀ w, True → (execOp a.eval o).run P w = .ok (.value v) w) (h : OrdW P ops Q S z l (a.put (some d) v) w) : OrdW P ops Q S z (i :: l) a w := by
  intro o' ho'
  obtain rfl : o = o' := by rw [ho] at ho'; exact Option.some.inj ho'
  rw [if_pos ht, if_pos hp]
  exact ⟨v, .inl ⟨hw, hy⟩, hd ▸ h⟩
theorem ord_skip {i : Nat} {l : List Nat} {a : Act} {w : World} {o : Oper} {d : Nat} (ho : ops[i]? = some o) (hd : o.dst = some d)
    (hw : Region.wanted o (yielded ops a.tmps) = false) (hS : i < z → S w) (h : OrdW P ops Q S z l (a.put (some d) undef) w) : OrdW P ops Q S z (i :: l) a w := by
  intro o' ho'
  obtain rfl : o = o' := by rw [ho] at ho'; exact Option.some.inj ho'
  rw [← hd] at h
  by_cases ht : takes z o i = true
  · rw [if_pos ht]; exact ⟨undef, .inr ⟨hw, rfl⟩, h⟩
  · rw [if_neg ht]; unfold wpOp; simp only [ho, hw, Bool.false_eq_true, if_false]; exact ⟨hS, h⟩
theorem ord_do {i : Nat} {l : List Nat} {a : Act} {w : World} {o : Oper} (ho : ops[i]? = some o) (ht : takes z o i = false) (hw : Region.wanted o (yielded ops a.tmps) = true)
    (h : ∀ K : Act → World → Prop, Shut (∀ a w, (i < z → S w) → OrdW P ops Q S z l a w → K a w) → Oper.wp P o a w K Q) : OrdW P ops Q S z (i :: l) a w := by
  intro o' ho'
  obtain rfl : o = o' := by rw [ho] at ho'; exact Option.some.inj ho'
  rw [if_neg (by rw [ht]; exact Bool.false_ne_true)]
  unfold wpOp
  simp only [ho, hw, if_true]
  exact .inl (h _ (fun a' w' h1 h2 => ⟨h1, h2⟩))
end
end OrP
namespace OtS
open Go Go.RowKit OrP
section
variable {P : Program} {ops : Array Oper} {Q : Exit → Act → World → Prop} {md : Region.Mode} {m : List Nat}
def okS (md : Region.Mode) (ops : Array Oper) (m : List Nat) : Nat → Ot → Array Bool → Bool
  | 0, .nil, listed => (Region.ready md ops listed).isEmpty
  | n + 1, .one i t, listed =>
    (match ops[i]? with
      | some _ => if m.contains i then (Region.ready md ops listed).contains i && Region.free md ops listed i else Region.ready md ops listed == [i]
      | none => false) && okS md ops m n t (listed.setIfInBounds i true)
  | n + 1, .two i ti j tj, listed =>
    (match ops[i]?, ops[j]? with
      | some _, some _ => !m.contains i && !m.contains j && Region.ready md ops listed == [i, j]
      | _, _ => false) && okS md ops m n ti (listed.setIfInBounds i true) && okS md ops m n tj (listed.setIfInBounds j true)
  | _, _, _ => false
def stepS (P : Program) (ops : Array Oper) (Q : Exit → Act → World → Prop) (m : List Nat) (i : Nat) (K : Act → World → Prop) (a : Act) (w : World) : Prop := ∀ o, ops[i]? = some o →
    if m.contains i then ∃ v, YieldsIf P ops (fun _ => True) o v a ∧ K (a.put o.dst v) w
    else wpOp P ops Q i K a w
def OrdS (P : Program) (ops : Array Oper) (Q : Exit → Act → World → Prop) (m : List Nat) : Ot → Act → World → Prop
  | .nil, a, w => Q .normal a w
  | .one i t, a, w => stepS P ops Q m i (OrdS P ops Q m t) a w
  | .two i ti j tj, a, w => stepS P ops Q m i (OrdS P ops Q m ti) a w ∧ stepS P ops Q m j (OrdS P ops Q m tj) a w
theorem ob_true {i : Nat} (w w' : World) : Ob ops (fun _ => True) 0 i w w' := by unfold Ob; split <;> exact fun _ => trivial
theorem ordS_sound (hs : Region.noSelect ops = true) (hQ : ∀ c a d v w, Q (.panic c) (Act.put a (some d) v) w → Q (.panic c) a w) :
    ∀ (n : Nat) (t : Ot) (listed : Array Bool) (a : Act) (w : World), okS md ops m n t listed = true → OrdS P ops Q m t a w → AnyP P md ops Q (fun _ => True) 0 n listed a w := by
  intro n
  induction n with
  | zero =>
    intro t listed a w hok h
    cases t with
    | nil => exact ⟨by simpa [okS] using hok, h⟩
    | one i t => simp [okS] at hok
    | two i ti j tj => simp [okS] at hok
  | succ n ih =>
    intro t listed a w hok h
    cases t with
    | nil => simp [okS] at hok
    | one i t =>
      simp only [okS, Bool.and_eq_true] at hok
      obtain ⟨hok, hrest⟩ := hok
      cases ho : ops[i]? with
      | none => rw [ho] at hok; cases hok
      | some o =>
        rw [ho] at hok
        have h1 := h o ho
        by_cases ht : m.contains i = true
        · simp only [ht, if_true] at hok h1
          obtain ⟨v, hy, hw⟩ := h1
          rw [Bool.and_eq_true] at hok
          exact anyP_first (fun _ => True) ho (Region.noSelect_spec hs) (fun c a w hp => by cases hd : o.dst with | none => rw [hd] at hp; exact hp | some d => rw [hd] at hp; exact hQ c a d v w hp) (fun w _ => ob_true w w) (fun _ _ _ _ _ _ _ _ => trivial) n listed a w (Region.free_spec ho hok.2) (by simpa using hok.1) hy trivial
            (ih _ _ _ _ hrest hw)
        · simp only [ht, if_false, Bool.false_eq_true] at hok h1
          have hr : Region.ready md ops listed = [i] := by simpa using hok
          refine ⟨fun h0 => (by rw [hr] at h0; cases h0), fun j hj => ?_⟩
          rw [hr] at hj
          obtain rfl : j = i := by simpa using hj
          exact wpOp_mono (fun a' w' h' => ⟨ob_true w w', ih _ _ _ _ hrest h'⟩) h1
    | two i ti j tj =>
      simp only [okS, Bool.and_eq_true] at hok
      obtain ⟨⟨hok, hri⟩, hrj⟩ := hok
      cases hoi : ops[i]? with
      | none => rw [hoi] at hok; cases hok
      | some oi =>
        cases hoj : ops[j]? with
        | none => rw [hoi, hoj] at hok; cases hok
        | some oj =>
          rw [hoi, hoj] at hok
          simp only [Bool.and_eq_true] at hok
          obtain ⟨⟨hti, htj⟩, hr⟩ := hok
          have hr : Region.ready md ops listed = [i, j] := by simpa using hr
          obtain ⟨h1, h2⟩ := h
          have h1 := h1 oi hoi
          have h2 := h2 oj hoj
          rw [Bool.not_eq_true'] at hti htj
          rw [hti] at h1
          rw [htj] at h2
          simp only [Bool.false_eq_true, if_false] at h1 h2
          refine ⟨fun h0 => (by rw [hr] at h0; cases h0), fun k hk => ?_⟩
          rw [hr] at hk
          simp only [List.mem_cons, List.not_mem_nil, or_false] at hk
          rcases hk with rfl | rfl
          · exact wpOp_mono (fun a' w' h' => ⟨ob_true w w', ih _ _ _ _ hri h'⟩) h1
          · exact wpOp_mono (fun a' w' h' => ⟨ob_true w w', ih _ _ _ _ hrj h'⟩) h2
/-- A region, walked over the tree. -/
theorem wp_region_os {id : Nat} {a : Act} {w : World} (t : Ot) (m : List Nat) (hm : P.follows .mixedOrders = true) (hs : Region.noSelect ops = true)
    (hok : okS .any ops m ops.size t (Array.replicate ops.size false) = true)
    (hQ : ∀ c a d v w, Q (.panic c) (Act.put a (some d) v) w → Q (.panic c) a w) (h : ∀ wd, Below w.heap.size w wd → OrdS P ops Q m t a wd) : (Code.region id ops true).wp P Q a w :=
  wp_region_any hm (any_of_p _ _ _ _ (ordS_sound hs hQ _ t _ a w.drew hok (h _ (Below.refl _ _).drew)))
theorem os_nil {a : Act} {w : World} (h : Q .normal a w) : OrdS P ops Q m .nil a w := h
theorem os_two {i j : Nat} {ti tj : Ot} {a : Act} {w : World} (h1 : OrdS P ops Q m (.one i ti) a w) (h2 : OrdS P ops Q m (.one j tj) a w) : OrdS P ops Q m (.two i ti j tj) a w := ⟨h1, h2⟩
theorem os_tk {i : Nat} {l : Ot} {a : Act} {w : World} {o : Oper} {v : Value} {d : Nat} (ho : ops[i]? = some o) (hd : o.dst = some d) (ht : m.contains i = true)
    (hw : Region.wanted o (yielded ops a.tmps) = true) (hy : ∀ w, True → (execOp a.eval o).run P w = .ok (.value v) w) (h : OrdS P ops Q m l (a.put (some d) v) w) : OrdS P ops Q m (.one i l) a w := by
  intro o' ho'
  obtain rfl : o = o' := by rw [ho] at ho'; exact Option.some.inj ho'
  rw [if_pos ht]
  exact ⟨v, .inl ⟨hw, hy⟩, hd ▸ h⟩
theorem os_do {i : Nat} {l : Ot} {a : Act} {w : World} {o : Oper} (ho : ops[i]? = some o) (ht : m.contains i = false) (hw : Region.wanted o (yielded ops a.tmps) = true)
    (h : ∀ K : Act → World → Prop, Shut (∀ a w, OrdS P ops Q m l a w → K a w) → Oper.wp P o a w K Q) : OrdS P ops Q m (.one i l) a w := by
  intro o' ho'
  obtain rfl : o = o' := by rw [ho] at ho'; exact Option.some.inj ho'
  rw [if_neg (by rw [ht]; exact Bool.false_ne_true)]
  unfold wpOp
  simp only [ho, hw, if_true]
  exact .inl (h _ (fun a' w' h2 => h2))
end
end OtS
section
variable {P : Program} {ops : Array Oper} {Q : Exit → Act → World → Prop} {md : Region.Mode} {S : World → Prop} {z : Nat}
/-- Operation j waits for operation i, itself or through others. -/
def depB (md : Region.Mode) (ops : Array Oper) : Nat → Nat → Nat → Bool
  | 0, _, _ => false
  | n + 1, j, i => match ops[j]? with
    | some o => o.after.any fun e => Region.binds md e && (e.on == i || depB md ops n e.on i)
    | none => false
def waitedT (md : Region.Mode) (ops : Array Oper) (z i : Nat) : Bool := (List.range ops.size).all fun j => decide (j < z) || depB md ops ops.size j i
/-- What is listed has all that it waits for listed. -/
def ClL (md : Region.Mode) (ops : Array Oper) (listed : Array Bool) : Prop := ∀ j o, ops[j]? = some o → listed.getD j false = true → ∀ e ∈ o.after, Region.binds md e = true → listed.getD e.on false = true
theorem dep_listed {listed : Array Bool} (hc : ClL md ops listed) {i : Nat} : ∀ (n j : Nat), listed.getD j false = true → depB md ops n j i = true → listed.getD i false = true := by
  intro n
  induction n with
  | zero => intro j _ h; cases h
  | succ n ih =>
    intro j hj h
    unfold depB at h
    cases ho : ops[j]? with
    | none => rw [ho] at h; cases h
    | some o =>
      rw [ho] at h
      obtain ⟨e, he, hb⟩ := Array.any_eq_true'.1 h
      rw [Bool.and_eq_true, Bool.or_eq_true] at hb
      have h1 := hc j o ho hj e he hb.1
      rcases hb.2 with h2 | h2
      · have : e.on = i := by simpa using h2
        rw [← this]; exact h1
      · exact ih _ h1 h2
theorem ready_dep {listed : Array Bool} (hc : ClL md ops listed) {i j : Nat} (hj : j ∈ Region.ready md ops listed) (n : Nat) (h : depB md ops n j i = true) : listed.getD i false = true := by
  obtain ⟨_, o, ho, hall⟩ := mem_ready.1 hj
  cases n with
  | zero => cases h
  | succ n =>
    unfold depB at h
    rw [ho] at h
    obtain ⟨e, he, hb⟩ := Array.any_eq_true'.1 h
    rw [Bool.and_eq_true, Bool.or_eq_true] at hb
    have h1 := hall e he hb.1
    rcases hb.2 with h2 | h2
    · have : e.on = i := by simpa using h2
      rw [← this]; exact h1
    · exact dep_listed hc n _ h1 h2
theorem not_ready_T {i j : Nat} {listed : Array Bool} (hc : ClL md ops listed) (h : waitedT md ops z i = true) (hi : listed.getD i true = false) (hj : j ∈ Region.ready md ops listed) : j < z := by
  obtain ⟨_, o, ho, _⟩ := mem_ready.1 hj
  simp only [waitedT, List.all_eq_true, List.mem_range] at h
  have h1 := h j (Array.getElem?_eq_some_iff.1 ho).1
  simp only [Bool.or_eq_true, decide_eq_true_eq] at h1
  rcases h1 with h1 | h1
  · exact h1
  · have h2 := ready_dep hc hj _ h1
    rcases Nat.lt_or_ge i listed.size with h' | h'
    · simp [h'] at hi h2; rw [hi] at h2; cases h2
    · simp [Array.getElem?_eq_none h'] at h2
theorem listed_mono {listed : Array Bool} {i k : Nat} (h : listed.getD k false = true) : (listed.setIfInBounds i true).getD k false = true := by
  by_cases e : i = k
  · subst e
    rcases Nat.lt_or_ge i listed.size with h' | h'
    · simp [h']
    · simp [Array.getElem?_eq_none h'] at h
  · rw [getD_set_ne false e]; exact h
theorem ClL.step {listed : Array Bool} (hc : ClL md ops listed) {i : Nat} (hi : i ∈ Region.ready md ops listed) : ClL md ops (listed.setIfInBounds i true) := by
  intro j o ho hj e he hb
  by_cases hji : i = j
  · subst hji
    obtain ⟨_, o', ho', hall⟩ := mem_ready.1 hi
    rw [ho] at ho'
    obtain rfl := Option.some.inj ho'
    exact listed_mono (hall e he hb)
  · rw [getD_set_ne false hji] at hj
    exact listed_mono (hc j o ho hj e he hb)
theorem ClL.start (n : Nat) : ClL md ops (Array.replicate n false) := by
  intro j o _ hj
  exfalso
  rcases Nat.lt_or_ge j n with h | h
  · simp [h] at hj
  · simp [Array.getElem?_eq_none (show (Array.replicate n false).size ≤ j by simpa using h)] at hj
theorem anyZ_firstT {i : Nat} {oi : Oper} {v : Value} (hi : ops[i]? = some oi) (hsel : ∀ (j : Nat) (o : Oper) cs b, ops[j]? = some o → o.op ≠ .select cs b)
    (hQ : ∀ c a w, Q (.panic c) (a.put oi.dst v) w → Q (.panic c) a w) (hwt : waitedT md ops z i = true) (hiz : i < z) :
    ∀ (fuel : Nat) (listed : Array Bool) (a : Act) (w : World), ClL md ops listed →
      (∀ j oj, ops[j]? = some oj → j ≠ i → listed.getD j true = false → (∀ e ∈ oj.after, Region.binds md e = true → e.on ≠ i) → oi.apart ops oj = true) →
      i ∈ Region.ready md ops listed → YieldsIf P ops S oi v a → S w →
      AnyZ P md ops Q S z fuel (listed.setIfInBounds i true) (a.put oi.dst v) w → AnyZ P md ops Q S z (fuel + 1) listed a w := by
  intro fuel
  induction fuel with
  | zero =>
    intro listed a w hcl _ hr hy hS H
    refine ⟨fun h => (by rw [h] at hr; cases hr), fun j hj => ?_⟩
    by_cases hji : j = i
    · subst hji; exact hy.wpOp hi hS ⟨fun _ => hS, H⟩
    · have := ready_mono hj hji
      rw [H.1] at this
      cases this
  | succ fuel ih =>
    intro listed a w hcl hfree hr hy hS H
    refine ⟨fun h => (by rw [h] at hr; cases hr), fun j hj => ?_⟩
    by_cases hji : j = i
    · subst hji; exact hy.wpOp hi hS ⟨fun _ => hS, H⟩
    · have hjz : j < z := not_ready_T hcl hwt (mem_ready.1 hr).1 hj
      have h1 := H.2 j (ready_mono hj hji)
      obtain ⟨hjun, oj, hoj, hall⟩ := mem_ready.1 hj
      have hnot : ∀ e ∈ oj.after, Region.binds md e = true → e.on ≠ i := fun e he hb heq => by
        have h1 := hall e he hb
        have h0 := (mem_ready.1 hr).1
        rw [heq] at h1
        rcases Nat.lt_or_ge i listed.size with h' | h'
        · simp [h'] at h0 h1; rw [h0] at h1; cases h1
        · simp [Array.getElem?_eq_none h'] at h1
      have h2 := wpOp_putIf hoj (hfree j oj hoj hji hjun hnot) (fun cs b => hsel i oi cs b hi) (fun cs b => hsel j oj cs b hoj) hQ hy h1
      have hfree' : ∀ k ok, ops[k]? = some ok → k ≠ i → (listed.setIfInBounds j true).getD k true = false →
          (∀ e ∈ ok.after, Region.binds md e = true → e.on ≠ i) → oi.apart ops ok = true := fun k ok hk hki hun hno => by
        refine hfree k ok hk hki ?_ hno
        by_cases hjk : j = k
        · subst hjk; exact hjun
        · rw [getD_set_ne true hjk] at hun; exact hun
      refine wpOp_mono (fun a' w' h3 => ⟨h3.2.1, ih (listed.setIfInBounds j true) a' w' (hcl.step hj) hfree' (ready_mono hr (Ne.symm hji)) h3.1 (h3.2.1 hjz) ?_⟩) h2
      rw [Array.setIfInBounds_comm _ _ hji]
      exact h3.2.2
def okTc (md : Region.Mode) (ops : Array Oper) (z : Nat) : Nat → Ot → Array Bool → Bool
  | 0, .nil, listed => (Region.ready md ops listed).isEmpty
  | n + 1, .one i t, listed =>
    (match ops[i]? with
      | some o => if takes z o i then (Region.ready md ops listed).contains i && Region.free md ops listed i && waitedT md ops z i else Region.ready md ops listed == [i] && (decide (i < z) || !t.has z)
      | none => false) && okTc md ops z n t (listed.setIfInBounds i true)
  | n + 1, .two i ti j tj, listed =>
    (match ops[i]?, ops[j]? with
      | some oi, some oj => !takes z oi i && !takes z oj j && Region.ready md ops listed == [i, j] && (decide (i < z) || !ti.has z) && (decide (j < z) || !tj.has z)
      | _, _ => false) && okTc md ops z n ti (listed.setIfInBounds i true) && okTc md ops z n tj (listed.setIfInBounds j true)
  | _, _, _ => false
theorem ordTc_sound (hs : Region.noSelect ops = true) (hQ : ∀ c a d v w, Q (.panic c) (Act.put a (some d) v) w → Q (.panic c) a w) :
    ∀ (n : Nat) (t : Ot) (listed : Array Bool) (a : Act) (w : World), ClL md ops listed → okTc md ops z n t listed = true → (t.has z = true → S w) → OrdT P ops Q S z t a w → AnyZ P md ops Q S z n listed a w := by
  intro n
  induction n with
  | zero =>
    intro t listed a w _ hok _ h
    cases t with
    | nil => exact ⟨by simpa [okTc] using hok, h⟩
    | one i t => simp [okTc] at hok
    | two i ti j tj => simp [okTc] at hok
  | succ n ih =>
    intro t listed a w hcl hok hS h
    cases t with
    | nil => simp [okTc] at hok
    | one i t =>
      simp only [okTc, Bool.and_eq_true] at hok
      obtain ⟨hok, hrest⟩ := hok
      cases ho : ops[i]? with
      | none => rw [ho] at hok; cases hok
      | some o =>
        rw [ho] at hok
        have h1 := h o ho
        by_cases ht : takes z o i = true
        · simp only [ht, if_true] at hok h1
          obtain ⟨v, hy, hw⟩ := h1
          have hiz : i < z := takes_lt ht
          rw [Bool.and_eq_true, Bool.and_eq_true] at hok
          have hir : i ∈ Region.ready md ops listed := by simpa using hok.1.1
          have hSw : S w := hS (by simp [Ot.has, hiz])
          exact anyZ_firstT ho (Region.noSelect_spec hs) (fun c a w hp => by cases hd : o.dst with | none => rw [hd] at hp; exact hp | some d => rw [hd] at hp; exact hQ c a d v w hp) hok.2 hiz n listed a w hcl (Region.free_spec ho hok.1.2) hir hy hSw
            (ih _ _ _ _ (hcl.step hir) hrest (fun _ => hSw) hw)
        · simp only [ht, if_false, Bool.false_eq_true] at hok h1
          rw [Bool.and_eq_true] at hok
          have hr : Region.ready md ops listed = [i] := by simpa using hok.1
          refine ⟨fun h0 => (by rw [hr] at h0; cases h0), fun j hj => ?_⟩
          rw [hr] at hj
          obtain rfl : j = i := by simpa using hj
          refine wpOp_mono (fun a' w' h' => ⟨h'.1, ih _ _ _ _ (hcl.step (by rw [hr]; simp)) hrest (fun hh => ?_) h'.2⟩) h1
          have h2 := hok.2
          rw [Bool.or_eq_true] at h2
          rcases h2 with h2 | h2
          · exact h'.1 (by simpa using h2)
          · rw [hh] at h2; cases h2
    | two i ti j tj =>
      simp only [okTc, Bool.and_eq_true] at hok
      obtain ⟨⟨hok, hri⟩, hrj⟩ := hok
      cases hoi : ops[i]? with
      | none => rw [hoi] at hok; cases hok
      | some oi =>
        cases hoj : ops[j]? with
        | none => rw [hoi, hoj] at hok; cases hok
        | some oj =>
          rw [hoi, hoj] at hok
          simp only [Bool.and_eq_true] at hok
          obtain ⟨⟨⟨⟨hti, htj⟩, hr⟩, hzi⟩, hzj⟩ := hok
          have hr : Region.ready md ops listed = [i, j] := by simpa using hr
          obtain ⟨h1, h2⟩ := h
          have h1 := h1 oi hoi
          have h2 := h2 oj hoj
          rw [Bool.not_eq_true'] at hti htj
          rw [hti] at h1
          rw [htj] at h2
          simp only [Bool.false_eq_true, if_false] at h1 h2
          refine ⟨fun h0 => (by rw [hr] at h0; cases h0), fun k hk => ?_⟩
          have hkr := hk
          rw [hr] at hk
          simp only [List.mem_cons, List.not_mem_nil, or_false] at hk
          rcases hk with rfl | rfl
          · refine wpOp_mono (fun a' w' h' => ⟨h'.1, ih _ _ _ _ (hcl.step hkr) hri (fun hh => ?_) h'.2⟩) h1
            rw [Bool.or_eq_true] at hzi
            rcases hzi with h2 | h2
            · exact h'.1 (by simpa using h2)
            · rw [hh] at h2; cases h2
          · refine wpOp_mono (fun a' w' h' => ⟨h'.1, ih _ _ _ _ (hcl.step hkr) hrj (fun hh => ?_) h'.2⟩) h2
            rw [Bool.or_eq_true] at hzj
            rcases hzj with h2 | h2
            · exact h'.1 (by simpa using h2)
            · rw [hh] at h2; cases h2
/-- The beginning. -/
theorem wp_region_otc {id : Nat} {a : Act} {w : World} (t : Ot) (z : Nat) (S : World → Prop) (hm : P.follows .mixedOrders = true) (hs : Region.noSelect ops = true)
    (hok : okTc .any ops z ops.size t (Array.replicate ops.size false) = true)
    (hQ : ∀ c a d v w, Q (.panic c) (Act.put a (some d) v) w → Q (.panic c) a w) (hS : S w.drew) (h : OrdT P ops Q S z t a w.drew) : (Code.region id ops true).wp P Q a w :=
  wp_region_any hm (any_of_z _ _ _ _ (ordTc_sound hs hQ _ t _ a w.drew (ClL.start _) hok (fun _ => hS) h))
end
end Go.Proofs.YtonehmjoolflfaaGreatDoor
