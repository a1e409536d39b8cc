
/- The same as Ord for a region without calls inside a fence (the body of a loop over an iterator): each operation's run is told outright. -/
import Derived.Test.YtneflhachjlmkaaOrd
import Derived.OrdersIn
import Derived.TacticsIn
namespace Go.Proofs.Ytneflhachjlmkaa
open Go

section
variable {P : Program} {ops : Array Oper} {Q : Exit → Act → World → Prop} {md : Region.Mode} {S : Bool → World → Prop} {z t : Nat}

/-- An operation that is no call and no defer statement. -/
def plainOp (o : Oper) : Bool := match o.op with | .call _ | .go _ | .defer _ | .select .. => false | _ => true

/-- Operation o, carried out in the state a and the world w, leaves v and the world w'. -/
def Does (P : Program) (ops : Array Oper) (o : Oper) (a : Act) (w : World) (v : Value) (w' : World) : Prop :=
  (Region.wanted o (yielded ops a.tmps) = true ∧ ((execOp a.eval o).run P w = .ok (.value v) w' ∨ ((execOp a.eval o).run P w = .ok .skip w' ∧ v = undef))) ∨
  (Region.wanted o (yielded ops a.tmps) = false ∧ v = undef ∧ w' = w)

theorem Does.put {oi oj : Oper} {v u : Value} {a : Act} {w w' : World} (hap : oi.apart ops oj = true) (hsj : ∀ cs b, oj.op ≠ .select cs b) (h : Does P ops oj (a.put oi.dst v) w u w') : Does P ops oj a w u w' := by
  obtain ⟨h1, _, _⟩ := Oper.apart_spec hap
  unfold Does at *
  rw [execOp_put oj hsj a oi.dst v h1, wanted_put oj a oi.dst v h1] at h
  exact h
theorem Does.wpIn {F : Fence} {n i : Nat} {o : Oper} {v : Value} {a : Act} {w w' : World} {K : Act → World → Prop} (ho : ops[i]? = some o) (hp : plainOp o = true) (h : Does P ops o a w v w') (hK : K (a.put o.dst v) w') : wpOpIn F n P ops Q i K a w := by
  have hd : ∀ c, o.op ≠ .defer c := fun c e => by simp [plainOp, e] at hp
  have hab : o.about P w a.eval = none := by
    unfold Oper.about
    cases e : o.op <;> simp [plainOp, e] at hp <;> rfl
  have hsem : o.semAt F.round a.eval = execOp a.eval o := by
    cases F.round with
    | none => rfl
    | some l => exact Oper.semAt_some l _ o hd
  unfold wpOpIn
  simp only [ho]
  rcases h with ⟨hw, h | ⟨h, rfl⟩⟩ | ⟨hw, rfl, rfl⟩
  · simp only [hw, if_true]; unfold Oper.wpIn; rw [hsem, h]; exact ⟨(fun f hf => by rw [hab] at hf; cases hf), hK⟩
  · simp only [hw, if_true]; unfold Oper.wpIn; rw [hsem, h]; exact ⟨(fun f hf => by rw [hab] at hf; cases hf), hK⟩
  · simp only [hw, Bool.false_eq_true, if_false]; exact ⟨(fun f hf => by rw [hab] at hf; cases hf), hK⟩

/-- Operation j waits for operation k itself. -/
def waitsOn (md : Region.Mode) (ops : Array Oper) (j k : Nat) : Bool := match ops[j]? with
  | some o => o.after.any fun e => Region.binds md e && e.on == k
  | none => true
theorem waitsOn_ready {i j : Nat} {listed : Array Bool} (hi : listed.getD i true = false) (hj : j ∈ Region.ready md ops listed) : waitsOn md ops j i = false := by
  obtain ⟨_, o, ho, hall⟩ := mem_ready.1 hj
  unfold waitsOn
  rw [ho]
  refine Bool.eq_false_iff.2 fun h => ?_
  obtain ⟨e, he, hb⟩ := Array.any_eq_true'.1 h
  simp only [Bool.and_eq_true, beq_iff_eq] at hb
  have h2 := hall e he hb.1
  rw [hb.2] at h2
  rcases Nat.lt_or_ge i listed.size with h' | h'
  · simp [h'] at hi h2; rw [hi] at h2; cases h2
  · simp [Array.getElem?_eq_none h'] at h2
/-- What the takes read: S false as long as operation t has not come, S true behind it; what t waits for is read ahead of it. -/
def Sx (md : Region.Mode) (ops : Array Oper) (S : Bool → World → Prop) (t i : Nat) (w : World) : Prop := ∃ b, (waitsOn md ops t i = true → b = false) ∧ S b w
/-- Is t listed? -/
def bitOf (t : Nat) (listed : Array Bool) : Bool := listed.getD t false
/-- If t is listed, so is all that it waits for. -/
def Shutt (md : Region.Mode) (ops : Array Oper) (t : Nat) (listed : Array Bool) : Prop := bitOf t listed = true → ∀ k, waitsOn md ops t k = true → listed.getD k true = true
theorem getD_set_self (listed : Array Bool) (i : Nat) : (listed.setIfInBounds i true).getD i true = true := by
  simp only [Array.getD_eq_getD_getElem?, Array.getElem?_setIfInBounds_self]
  split <;> rfl
theorem bitOf_set_ne {t i : Nat} {listed : Array Bool} (h : i ≠ t) : bitOf t (listed.setIfInBounds i true) = bitOf t listed := getD_set_ne false h
theorem Shutt.set {listed : Array Bool} (h : Shutt md ops t listed) {j : Nat} (hj : j ∈ Region.ready md ops listed) : Shutt md ops t (listed.setIfInBounds j true) := by
  intro hb k hk
  by_cases hjk : j = k
  · subst hjk; exact getD_set_self _ _
  · rw [getD_set_ne true hjk]
    by_cases hjt : j = t
    · subst hjt
      refine Bool.eq_false_imp_eq_true.1 fun hf => ?_
      rw [waitsOn_ready hf hj] at hk; cases hk
    · rw [bitOf_set_ne hjt] at hb
      exact h hb k hk
theorem Shutt.sx {listed : Array Bool} {w : World} {i : Nat} (h : Shutt md ops t listed) (hi : listed.getD i true = false) (hS : S (bitOf t listed) w) : Sx md ops S t i w := by
  refine ⟨_, fun hw => ?_, hS⟩
  refine Bool.eq_false_iff.2 fun hb => ?_
  rw [h hb i hw] at hi; cases hi

/-- Whatever order is picked from here on. -/
def AnyV (P : Program) (md : Region.Mode) (ops : Array Oper) (Q : Exit → Act → World → Prop) (S : Bool → World → Prop) (z t : Nat) : Nat → Array Bool → Act → World → Prop
  | 0, listed, a, w => Region.ready md ops listed = [] ∧ Q .normal a w
  | fuel + 1, listed, a, w =>
    (Region.ready md ops listed = [] → Q .normal a w) ∧
    ∀ i ∈ Region.ready md ops listed, ∃ o v w', ops[i]? = some o ∧ Does P ops o a w v w' ∧ (i < z → S (bitOf t (listed.setIfInBounds i true)) w') ∧ AnyV P md ops Q S z t fuel (listed.setIfInBounds i true) (a.put o.dst v) w'

theorem anyIn_of_v {F : Fence} {n : Nat} (hp : ops.all plainOp = true) : ∀ (fuel : Nat) (listed : Array Bool) (a : Act) (w : World), AnyV P md ops Q S z t fuel listed a w → wpAnyIn F n P md ops Q fuel listed a w
  | 0, _, _, _, h => h
  | fuel + 1, _, _, _, h => ⟨h.1, fun i hi => by
      obtain ⟨o, v, w', ho, hd, _, hK⟩ := h.2 i hi
      exact hd.wpIn ho (Array.all_eq_true_iff_forall_mem.1 hp o (Array.mem_of_getElem? ho)) (anyIn_of_v hp fuel _ _ _ hK)⟩

theorem YieldsIf.does {R : World → Prop} {o : Oper} {v : Value} {a : Act} {w : World} (h : YieldsIf P ops R o v a) (hS : R w) : Does P ops o a w v w := by
  rcases h with ⟨hw, hv⟩ | ⟨hw, rfl⟩
  · exact .inl ⟨hw, .inl (hv w hS)⟩
  · exact .inr ⟨hw, rfl, rfl⟩

theorem anyV_first {i : Nat} {oi : Oper} {v : Value} (hi : ops[i]? = some oi) (hsel : ∀ (j : Nat) (o : Oper) cs b, ops[j]? = some o → o.op ≠ .select cs b)
    (hwt : waited md ops z i = true) (hiz : i < z) (hit : i ≠ t) :
    ∀ (fuel : Nat) (listed : Array Bool) (a : Act) (w : World),
      (∀ j oj, ops[j]? = some oj → j ≠ i → listed.getD j true = false → (∀ e ∈ oj.after, Region.binds md e = true → e.on ≠ i) → oi.apart ops oj = true) →
      i ∈ Region.ready md ops listed → YieldsIf P ops (Sx md ops S t i) oi v a → Shutt md ops t listed → S (bitOf t listed) w →
      AnyV P md ops Q S z t fuel (listed.setIfInBounds i true) (a.put oi.dst v) w → AnyV P md ops Q S z t (fuel + 1) listed a w := by
  intro fuel
  induction fuel with
  | zero =>
    intro listed a w _ hr hy hC hS H
    refine ⟨fun h => (by rw [h] at hr; cases hr), fun j hj => ?_⟩
    by_cases hji : j = i
    · subst hji; exact ⟨oi, v, w, hi, YieldsIf.does hy (hC.sx (mem_ready.1 hr).1 hS), fun _ => by rw [bitOf_set_ne hit]; exact hS, H⟩
    · have := ready_mono hj hji
      rw [H.1] at this
      cases this
  | succ fuel ih =>
    intro listed a w hfree hr hy hC hS H
    refine ⟨fun h => (by rw [h] at hr; cases hr), fun j hj => ?_⟩
    by_cases hji : j = i
    · subst hji; exact ⟨oi, v, w, hi, YieldsIf.does hy (hC.sx (mem_ready.1 hr).1 hS), fun _ => by rw [bitOf_set_ne hit]; exact hS, H⟩
    · have hjz : j < z := not_ready_of_waited hwt (mem_ready.1 hr).1 hj
      obtain ⟨oj, u, w', hoj', hd, hSj, hrest⟩ := H.2 j (ready_mono hj hji)
      obtain ⟨hjun, oj', hoj, hall⟩ := mem_ready.1 hj
      obtain rfl : oj = oj' := by rw [hoj] at hoj'; exact (Option.some.inj hoj').symm
      have hnot : ∀ e ∈ oj.after, Region.binds md e = true → e.on ≠ i := fun e he hb heq => by
        have h1 := hall e he hb
        have h0 := (mem_ready.1 hr).1
        rw [heq] at h1
        rcases Nat.lt_or_ge i listed.size with h' | h'
        · simp [h'] at h0 h1; rw [h0] at h1; cases h1
        · simp [Array.getElem?_eq_none h'] at h1
      have hap := hfree j oj hoj hji hjun hnot
      obtain ⟨_, h2, h3⟩ := Oper.apart_spec hap
      have hfree' : ∀ k ok, ops[k]? = some ok → k ≠ i → (listed.setIfInBounds j true).getD k true = false →
          (∀ e ∈ ok.after, Region.binds md e = true → e.on ≠ i) → oi.apart ops ok = true := fun k ok hk hki hun hno => by
        refine hfree k ok hk hki ?_ hno
        by_cases hjk : j = k
        · subst hjk; exact hjun
        · rw [getD_set_ne true hjk] at hun; exact hun
      have hSj' : j < z → S (bitOf t (listed.setIfInBounds j true)) w' := fun h => by
        have := hSj h
        rw [Array.setIfInBounds_comm _ _ (Ne.symm hji), bitOf_set_ne hit] at this
        exact this
      refine ⟨oj, u, w', hoj, hd.put hap (fun cs b => hsel j oj cs b hoj), hSj', ?_⟩
      refine ih _ _ _ hfree' (ready_mono hr (Ne.symm hji)) (hy.of_same (execOp_put oi (fun cs b => hsel i oi cs b hi) a oj.dst u h3) (wanted_put oi a oj.dst u h3)) (hC.set hj) (hSj' hjz) ?_
      rw [Array.setIfInBounds_comm _ _ hji, ← Act.put_comm a v u h2]
      exact hrest

/-- The walk in the order l; the Bool: has t come? -/
def OrdV (P : Program) (md : Region.Mode) (ops : Array Oper) (Q : Exit → Act → World → Prop) (S : Bool → World → Prop) (z t : Nat) : Bool → List Nat → Act → World → Prop
  | _, [], a, w => Q .normal a w
  | b, i :: l, a, w => ∀ o, ops[i]? = some o →
    if takes z o i && i != t then ∃ v, YieldsIf P ops (Sx md ops S t i) o v a ∧ OrdV P md ops Q S z t b l (a.put o.dst v) w
    else ∃ v w', Does P ops o a w v w' ∧ (i < z → S (b || i == t) w') ∧ OrdV P md ops Q S z t (b || i == t) l (a.put o.dst v) w'

theorem bitOf_set {t i : Nat} {listed : Array Bool} (h : i < listed.size) : bitOf t (listed.setIfInBounds i true) = (bitOf t listed || i == t) := by
  by_cases e : i = t
  · subst e; simp [bitOf, Array.getD_eq_getD_getElem?, h]
  · rw [bitOf_set_ne e]; simp [e]

theorem ordV_sound (hs : Region.noSelect ops = true) :
    ∀ (l : List Nat) (listed : Array Bool) (a : Act) (w : World), orderOk md ops z l listed = true → (∀ o, ops[t]? = some o → takes z o t = false) → Shutt md ops t listed → ((∃ i ∈ l, i < z) → S (bitOf t listed) w) → OrdV P md ops Q S z t (bitOf t listed) l a w → AnyV P md ops Q S z t l.length listed a w := by
  intro l
  induction l with
  | nil =>
    intro listed a w hok _ _ _ h
    have : Region.ready md ops listed = [] := by simpa [orderOk] using hok
    exact ⟨this, h⟩
  | cons i l ih =>
    intro listed a w hok hX hC hS h
    simp only [orderOk, Bool.and_eq_true] at hok
    obtain ⟨hok, hrest⟩ := hok
    cases ho : ops[i]? with
    | none => rw [ho] at hok; cases hok
    | some o =>
      rw [ho] at hok
      have h1 := h o ho
      by_cases ht : takes z o i = true
      · by_cases hit : i = t
        · subst hit; rw [hX o ho] at ht; cases ht
        have hc : (takes z o i && i != t) = true := by simp [ht, hit]
        rw [if_pos hc] at h1
        simp only [ht, if_true] at hok
        obtain ⟨v, hy, hw⟩ := h1
        have hiz : i < z := takes_lt ht
        rw [Bool.and_eq_true, Bool.and_eq_true] at hok
        have hri : i ∈ Region.ready md ops listed := by simpa using hok.1.1
        refine anyV_first ho (Region.noSelect_spec hs) hok.2 hiz hit l.length listed a w (Region.free_spec ho hok.1.2) hri hy hC (hS ⟨i, by simp, hiz⟩)
          (ih _ _ _ hrest hX (hC.set hri) (fun ⟨j, hj, hjz⟩ => by rw [bitOf_set_ne hit]; exact hS ⟨j, by simp [hj], hjz⟩) (by rw [bitOf_set_ne hit]; exact hw))
      · have hc : ¬ (takes z o i && i != t) = true := by simp [ht]
        rw [if_neg hc] at h1
        simp only [ht, if_false, Bool.false_eq_true] at hok
        rw [Bool.and_eq_true] at hok
        have hr : Region.ready md ops listed = [i] := by simpa using hok.1
        have hri : i ∈ Region.ready md ops listed := by rw [hr]; simp
        have hsz : i < listed.size := by
          have := (mem_ready.1 hri).1
          rcases Nat.lt_or_ge i listed.size with h' | h'
          · exact h'
          · simp [Array.getD_eq_getD_getElem?, Array.getElem?_eq_none h'] at this
        obtain ⟨v, w', hd, hSi, hw⟩ := h1
        refine ⟨fun h0 => (by rw [hr] at h0; cases h0), fun j hj => ?_⟩
        rw [hr] at hj
        obtain rfl : j = i := by simpa using hj
        have hbit := bitOf_set (t := t) hsz
        refine ⟨o, v, w', ho, hd, by rw [hbit]; exact hSi, ih _ _ _ hrest hX (hC.set hri) (fun ⟨k, hk, hkz⟩ => ?_) (by rw [hbit]; exact hw)⟩
        have h2 := hok.2
        rw [Bool.or_eq_true] at h2
        rw [hbit]
        rcases h2 with h2 | h2
        · exact hSi (by simpa using h2)
        · rw [List.all_eq_true] at h2
          have := h2 k hk
          simp only [decide_eq_true_eq] at this
          omega

theorem wpIn_region_ord {F : Fence} {n : Nat} {id : Nat} {a : Act} {w : World} (l : List Nat) (z t : Nat) (S : Bool → World → Prop) (hm : P.follows .mixedOrders = true) (hs : Region.noSelect ops = true) (hp : ops.all plainOp = true)
    (hok : (l.length == ops.size && orderOk .any ops z l (Array.replicate ops.size false)) = true) (htk : (ops[t]?.all fun o => !takes z o t) = true)
    (hS : S false w.drew) (h : OrdV P .any ops Q S z t false l a w.drew) : (Code.region id ops true).wpIn F n P Q a w := by
  rw [Bool.and_eq_true] at hok
  have hl : l.length = ops.size := by simpa using hok.1
  have hb : bitOf t (Array.replicate ops.size false) = false := by
    unfold bitOf
    rw [Array.getD_eq_getD_getElem?, Array.getElem?_replicate]
    split <;> rfl
  have h1 := anyIn_of_v (F := F) (n := n) hp _ _ _ _ (ordV_sound hs l _ a w.drew hok.2 (fun o ho => by rw [ho] at htk; simpa using htk) (fun h => by rw [hb] at h; cases h) (fun _ => by rw [hb]; exact hS) (by rw [hb]; exact h))
  rw [hl] at h1
  exact wpIn_region_any hm h1

variable {b : Bool}
theorem ordV_nil {a : Act} {w : World} (h : Q .normal a w) : OrdV P md ops Q S z t b [] a w := h
theorem ordV_take {i : Nat} {l : List Nat} {a : Act} {w : World} {o : Oper} {v : Value} (ho : ops[i]? = some o) (ht : (takes z o i && i != t) = true)
    (hw : Region.wanted o (yielded ops a.tmps) = true) (hy : ∀ w, Sx md ops S t i w → (execOp a.eval o).run P w = .ok (.value v) w) (h : OrdV P md ops Q S z t b l (a.put o.dst v) w) : OrdV P md ops Q S z t b (i :: l) a w := by
  intro o' ho'
  obtain rfl : o = o' := by rw [ho] at ho'; exact Option.some.inj ho'
  rw [if_pos ht]
  exact ⟨v, .inl ⟨hw, hy⟩, h⟩
/-- An operation that leaves v. -/
theorem ordV_do {i : Nat} {l : List Nat} {a : Act} {w w' : World} {o : Oper} {v : Value} (ho : ops[i]? = some o) (ht : takes z o i = false) (hw : Region.wanted o (yielded ops a.tmps) = true)
    (hr : (execOp a.eval o).run P w = .ok (.value v) w') (hS : i < z → S (b || i == t) w') (h : OrdV P md ops Q S z t (b || i == t) l (a.put o.dst v) w') : OrdV P md ops Q S z t b (i :: l) a w := by
  intro o' ho'
  obtain rfl : o = o' := by rw [ho] at ho'; exact Option.some.inj ho'
  rw [if_neg (by rw [ht]; exact Bool.false_ne_true)]
  exact ⟨v, w', .inl ⟨hw, .inl hr⟩, hS, h⟩
/-- An operation that leaves nothing (a store). -/
theorem ordV_store {i : Nat} {l : List Nat} {a : Act} {w w' : World} {o : Oper} (ho : ops[i]? = some o) (ht : takes z o i = false) (hw : Region.wanted o (yielded ops a.tmps) = true)
    (hr : (execOp a.eval o).run P w = .ok .skip w') (hS : i < z → S (b || i == t) w') (h : OrdV P md ops Q S z t (b || i == t) l (a.put o.dst undef) w') : OrdV P md ops Q S z t b (i :: l) a w := by
  intro o' ho'
  obtain rfl : o = o' := by rw [ho] at ho'; exact Option.some.inj ho'
  rw [if_neg (by rw [ht]; exact Bool.false_ne_true)]
  exact ⟨undef, w', .inl ⟨hw, .inr ⟨hr, rfl⟩⟩, hS, h⟩
end
end Go.Proofs.Ytneflhachjlmkaa
