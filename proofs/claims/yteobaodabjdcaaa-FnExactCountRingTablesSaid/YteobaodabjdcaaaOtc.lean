
/- Regions that draw their order, by a tree of orders, where an operation may wait for a load through other operations. -/
import Derived.Test.YteobaodabjdcaaaBa
namespace Go.Proofs.Yteobaodabjdcaaa
open Go Go.RowKit
set_option linter.unusedVariables false
section
variable {P : Program} {ops : Array Oper} {Q : Exit → Act → World → Prop} {md : Region.Mode} {S : World → Prop} {z : Nat}
/-- Operation j waits for operation i, itself or through others. -/
def depB (md : Region.Mode) (ops : Array Oper) : Nat → Nat → Nat → Bool
  | 0, _, _ => false
  | n + 1, j, i => match ops[j]? with
    | some o => o.after.any fun e => Region.binds md e && (e.on == i || depB md ops n e.on i)
    | none => false
def waitedT (md : Region.Mode) (ops : Array Oper) (z i : Nat) : Bool := (List.range ops.size).all fun j => decide (j < z) || depB md ops ops.size j i
/-- What is listed has all that it waits for listed. -/
def ClL (md : Region.Mode) (ops : Array Oper) (listed : Array Bool) : Prop := ∀ j o, ops[j]? = some o → listed.getD j false = true → ∀ e ∈ o.after, Region.binds md e = true → listed.getD e.on false = true
theorem dep_listed {listed : Array Bool} (hc : ClL md ops listed) {i : Nat} : ∀ (n j : Nat), listed.getD j false = true → depB md ops n j i = true → listed.getD i false = true := by
  intro n
  induction n with
  | zero => intro j _ h; cases h
  | succ n ih =>
    intro j hj h
    unfold depB at h
    cases ho : ops[j]? with
    | none => rw [ho] at h; cases h
    | some o =>
      rw [ho] at h
      obtain ⟨e, he, hb⟩ := Array.any_eq_true'.1 h
      rw [Bool.and_eq_true, Bool.or_eq_true] at hb
      have h1 := hc j o ho hj e he hb.1
      rcases hb.2 with h2 | h2
      · have : e.on = i := by simpa using h2
        rw [← this]; exact h1
      · exact ih _ h1 h2
theorem ready_dep {listed : Array Bool} (hc : ClL md ops listed) {i j : Nat} (hj : j ∈ Region.ready md ops listed) (n : Nat) (h : depB md ops n j i = true) : listed.getD i false = true := by
  obtain ⟨_, o, ho, hall⟩ := mem_ready.1 hj
  cases n with
  | zero => cases h
  | succ n =>
    unfold depB at h
    rw [ho] at h
    obtain ⟨e, he, hb⟩ := Array.any_eq_true'.1 h
    rw [Bool.and_eq_true, Bool.or_eq_true] at hb
    have h1 := hall e he hb.1
    rcases hb.2 with h2 | h2
    · have : e.on = i := by simpa using h2
      rw [← this]; exact h1
    · exact dep_listed hc n _ h1 h2
theorem not_ready_T {i j : Nat} {listed : Array Bool} (hc : ClL md ops listed) (h : waitedT md ops z i = true) (hi : listed.getD i true = false) (hj : j ∈ Region.ready md ops listed) : j < z := by
  obtain ⟨_, o, ho, _⟩ := mem_ready.1 hj
  simp only [waitedT, List.all_eq_true, List.mem_range] at h
  have h1 := h j (Array.getElem?_eq_some_iff.1 ho).1
  simp only [Bool.or_eq_true, decide_eq_true_eq] at h1
  rcases h1 with h1 | h1
  · exact h1
  · have h2 := ready_dep hc hj _ h1
    rcases Nat.lt_or_ge i listed.size with h' | h'
    · simp [h'] at hi h2; rw [hi] at h2; cases h2
    · simp [Array.getElem?_eq_none h'] at h2
theorem listed_mono {listed : Array Bool} {i k : Nat} (h : listed.getD k false = true) : (listed.setIfInBounds i true).getD k false = true := by
  by_cases e : i = k
  · subst e
    rcases Nat.lt_or_ge i listed.size with h' | h'
    · simp [h']
    · simp [Array.getElem?_eq_none h'] at h
  · rw [getD_set_ne false e]; exact h
theorem ClL.step {listed : Array Bool} (hc : ClL md ops listed) {i : Nat} (hi : i ∈ Region.ready md ops listed) : ClL md ops (listed.setIfInBounds i true) := by
  intro j o ho hj e he hb
  by_cases hji : i = j
  · subst hji
    obtain ⟨_, o', ho', hall⟩ := mem_ready.1 hi
    rw [ho] at ho'
    obtain rfl := Option.some.inj ho'
    exact listed_mono (hall e he hb)
  · rw [getD_set_ne false hji] at hj
    exact listed_mono (hc j o ho hj e he hb)
theorem ClL.start (n : Nat) : ClL md ops (Array.replicate n false) := by
  intro j o _ hj
  exfalso
  rcases Nat.lt_or_ge j n with h | h
  · simp [h] at hj
  · simp [Array.getElem?_eq_none (show (Array.replicate n false).size ≤ j by simpa using h)] at hj
theorem anyZ_firstT {i : Nat} {oi : Oper} {v : Value} (hi : ops[i]? = some oi) (hsel : ∀ (j : Nat) (o : Oper) cs b, ops[j]? = some o → o.op ≠ .select cs b)
    (hQ : ∀ c a w, Q (.panic c) (a.put oi.dst v) w → Q (.panic c) a w) (hwt : waitedT md ops z i = true) (hiz : i < z) :
    ∀ (fuel : Nat) (listed : Array Bool) (a : Act) (w : World), ClL md ops listed →
      (∀ j oj, ops[j]? = some oj → j ≠ i → listed.getD j true = false → (∀ e ∈ oj.after, Region.binds md e = true → e.on ≠ i) → oi.apart ops oj = true) →
      i ∈ Region.ready md ops listed → YieldsIf P ops S oi v a → S w →
      AnyZ P md ops Q S z fuel (listed.setIfInBounds i true) (a.put oi.dst v) w → AnyZ P md ops Q S z (fuel + 1) listed a w := by
  intro fuel
  induction fuel with
  | zero =>
    intro listed a w hcl _ hr hy hS H
    refine ⟨fun h => (by rw [h] at hr; cases hr), fun j hj => ?_⟩
    by_cases hji : j = i
    · subst hji; exact hy.wpOp hi hS ⟨fun _ => hS, H⟩
    · have := ready_mono hj hji
      rw [H.1] at this
      cases this
  | succ fuel ih =>
    intro listed a w hcl hfree hr hy hS H
    refine ⟨fun h => (by rw [h] at hr; cases hr), fun j hj => ?_⟩
    by_cases hji : j = i
    · subst hji; exact hy.wpOp hi hS ⟨fun _ => hS, H⟩
    · have hjz : j < z := not_ready_T hcl hwt (mem_ready.1 hr).1 hj
      have h1 := H.2 j (ready_mono hj hji)
      obtain ⟨hjun, oj, hoj, hall⟩ := mem_ready.1 hj
      have hnot : ∀ e ∈ oj.after, Region.binds md e = true → e.on ≠ i := fun e he hb heq => by
        have h1 := hall e he hb
        have h0 := (mem_ready.1 hr).1
        rw [heq] at h1
        rcases Nat.lt_or_ge i listed.size with h' | h'
        · simp [h'] at h0 h1; rw [h0] at h1; cases h1
        · simp [Array.getElem?_eq_none h'] at h1
      have h2 := wpOp_putIf hoj (hfree j oj hoj hji hjun hnot) (fun cs b => hsel i oi cs b hi) (fun cs b => hsel j oj cs b hoj) hQ hy h1
      have hfree' : ∀ k ok, ops[k]? = some ok → k ≠ i → (listed.setIfInBounds j true).getD k true = false →
          (∀ e ∈ ok.after, Region.binds md e = true → e.on ≠ i) → oi.apart ops ok = true := fun k ok hk hki hun hno => by
        refine hfree k ok hk hki ?_ hno
        by_cases hjk : j = k
        · subst hjk; exact hjun
        · rw [getD_set_ne true hjk] at hun; exact hun
      refine wpOp_mono (fun a' w' h3 => ⟨h3.2.1, ih (listed.setIfInBounds j true) a' w' (hcl.step hj) hfree' (ready_mono hr (Ne.symm hji)) h3.1 (h3.2.1 hjz) ?_⟩) h2
      rw [Array.setIfInBounds_comm _ _ hji]
      exact h3.2.2
def okTc (md : Region.Mode) (ops : Array Oper) (z : Nat) : Nat → Ot → Array Bool → Bool
  | 0, .nil, listed => (Region.ready md ops listed).isEmpty
  | n + 1, .one i t, listed =>
    (match ops[i]? with
      | some o => if takes z o i then (Region.ready md ops listed).contains i && Region.free md ops listed i && waitedT md ops z i else Region.ready md ops listed == [i] && (decide (i < z) || !t.has z)
      | none => false) && okTc md ops z n t (listed.setIfInBounds i true)
  | n + 1, .two i ti j tj, listed =>
    (match ops[i]?, ops[j]? with
      | some oi, some oj => !takes z oi i && !takes z oj j && Region.ready md ops listed == [i, j] && (decide (i < z) || !ti.has z) && (decide (j < z) || !tj.has z)
      | _, _ => false) && okTc md ops z n ti (listed.setIfInBounds i true) && okTc md ops z n tj (listed.setIfInBounds j true)
  | _, _, _ => false
theorem ordTc_sound (hs : Region.noSelect ops = true) (hQ : ∀ c a d v w, Q (.panic c) (Act.put a (some d) v) w → Q (.panic c) a w) :
    ∀ (n : Nat) (t : Ot) (listed : Array Bool) (a : Act) (w : World), ClL md ops listed → okTc md ops z n t listed = true → (t.has z = true → S w) → OrdT P ops Q S z t a w → AnyZ P md ops Q S z n listed a w := by
  intro n
  induction n with
  | zero =>
    intro t listed a w _ hok _ h
    cases t with
    | nil => exact ⟨by simpa [okTc] using hok, h⟩
    | one i t => simp [okTc] at hok
    | two i ti j tj => simp [okTc] at hok
  | succ n ih =>
    intro t listed a w hcl hok hS h
    cases t with
    | nil => simp [okTc] at hok
    | one i t =>
      simp only [okTc, Bool.and_eq_true] at hok
      obtain ⟨hok, hrest⟩ := hok
      cases ho : ops[i]? with
      | none => rw [ho] at hok; cases hok
      | some o =>
        rw [ho] at hok
        have h1 := h o ho
        by_cases ht : takes z o i = true
        · simp only [ht, if_true] at hok h1
          obtain ⟨v, hy, hw⟩ := h1
          have hiz : i < z := takes_lt ht
          rw [Bool.and_eq_true, Bool.and_eq_true] at hok
          have hir : i ∈ Region.ready md ops listed := by simpa using hok.1.1
          have hSw : S w := hS (by simp [Ot.has, hiz])
          exact anyZ_firstT ho (Region.noSelect_spec hs) (fun c a w hp => by cases hd : o.dst with | none => rw [hd] at hp; exact hp | some d => rw [hd] at hp; exact hQ c a d v w hp) hok.2 hiz n listed a w hcl (Region.free_spec ho hok.1.2) hir hy hSw
            (ih _ _ _ _ (hcl.step hir) hrest (fun _ => hSw) hw)
        · simp only [ht, if_false, Bool.false_eq_true] at hok h1
          rw [Bool.and_eq_true] at hok
          have hr : Region.ready md ops listed = [i] := by simpa using hok.1
          refine ⟨fun h0 => (by rw [hr] at h0; cases h0), fun j hj => ?_⟩
          rw [hr] at hj
          obtain rfl : j = i := by simpa using hj
          refine wpOp_mono (fun a' w' h' => ⟨h'.1, ih _ _ _ _ (hcl.step (by rw [hr]; simp)) hrest (fun hh => ?_) h'.2⟩) h1
          have h2 := hok.2
          rw [Bool.or_eq_true] at h2
          rcases h2 with h2 | h2
          · exact h'.1 (by simpa using h2)
          · rw [hh] at h2; cases h2
    | two i ti j tj =>
      simp only [okTc, Bool.and_eq_true] at hok
      obtain ⟨⟨hok, hri⟩, hrj⟩ := hok
      cases hoi : ops[i]? with
      | none => rw [hoi] at hok; cases hok
      | some oi =>
        cases hoj : ops[j]? with
        | none => rw [hoi, hoj] at hok; cases hok
        | some oj =>
          rw [hoi, hoj] at hok
          simp only [Bool.and_eq_true] at hok
          obtain ⟨⟨⟨⟨hti, htj⟩, hr⟩, hzi⟩, hzj⟩ := hok
          have hr : Region.ready md ops listed = [i, j] := by simpa using hr
          obtain ⟨h1, h2⟩ := h
          have h1 := h1 oi hoi
          have h2 := h2 oj hoj
          rw [Bool.not_eq_true'] at hti htj
          rw [hti] at h1
          rw [htj] at h2
          simp only [Bool.false_eq_true, if_false] at h1 h2
          refine ⟨fun h0 => (by rw [hr] at h0; cases h0), fun k hk => ?_⟩
          have hkr := hk
          rw [hr] at hk
          simp only [List.mem_cons, List.not_mem_nil, or_false] at hk
          rcases hk with rfl | rfl
          · refine wpOp_mono (fun a' w' h' => ⟨h'.1, ih _ _ _ _ (hcl.step hkr) hri (fun hh => ?_) h'.2⟩) h1
            rw [Bool.or_eq_true] at hzi
            rcases hzi with h2 | h2
            · exact h'.1 (by simpa using h2)
            · rw [hh] at h2; cases h2
          · refine wpOp_mono (fun a' w' h' => ⟨h'.1, ih _ _ _ _ (hcl.step hkr) hrj (fun hh => ?_) h'.2⟩) h2
            rw [Bool.or_eq_true] at hzj
            rcases hzj with h2 | h2
            · exact h'.1 (by simpa using h2)
            · rw [hh] at h2; cases h2
/-- The beginning. -/
theorem wp_region_otc {id : Nat} {a : Act} {w : World} (t : Ot) (z : Nat) (S : World → Prop) (hm : P.follows .mixedOrders = true) (hs : Region.noSelect ops = true)
    (hok : okTc .any ops z ops.size t (Array.replicate ops.size false) = true)
    (hQ : ∀ c a d v w, Q (.panic c) (Act.put a (some d) v) w → Q (.panic c) a w) (hS : S w.drew) (h : OrdT P ops Q S z t a w.drew) : (Code.region id ops true).wp P Q a w :=
  wp_region_any hm (any_of_z _ _ _ _ (ordTc_sound hs hQ _ t _ a w.drew (ClL.start _) hok (fun _ => hS) h))
end
end Go.Proofs.Yteobaodabjdcaaa
