
/- Regions that draw their order where up to three operations that make memory may come up at once: every order is walked; a tree tells them. -/
import Derived.Test.YtneflhachjlmkaaBa
namespace Go.Proofs.Ytneflhachjlmkaa
open Go Go.RowKit

/-- The orders of a region. -/
inductive O3 where
  | nil
  | one (i : Nat) (t : O3)
  | two (i : Nat) (ti : O3) (j : Nat) (tj : O3)
  | three (i : Nat) (ti : O3) (j : Nat) (tj : O3) (k : Nat) (tk : O3)
/-- Does an operation below z come? -/
def O3.has (z : Nat) : O3 → Bool
  | .nil => false
  | .one i t => decide (i < z) || t.has z
  | .two i ti j tj => decide (i < z) || decide (j < z) || ti.has z || tj.has z
  | .three i ti j tj k tk => decide (i < z) || decide (j < z) || decide (k < z) || ti.has z || tj.has z || tk.has z

section
variable {P : Program} {ops : Array Oper} {Q : Exit → Act → World → Prop} {md : Region.Mode} {S : World → Prop} {z : Nat}
def okT3 (md : Region.Mode) (ops : Array Oper) (z : Nat) : Nat → O3 → Array Bool → Bool
  | 0, .nil, listed => (Region.ready md ops listed).isEmpty
  | n + 1, .one i t, listed =>
    (match ops[i]? with
      | some o => if takes z o i then (Region.ready md ops listed).contains i && Region.free md ops listed i && waited md ops z i else Region.ready md ops listed == [i] && (decide (i < z) || !t.has z)
      | none => false) && okT3 md ops z n t (listed.setIfInBounds i true)
  | n + 1, .two i ti j tj, listed =>
    (match ops[i]?, ops[j]? with
      | some oi, some oj => !takes z oi i && !takes z oj j && Region.ready md ops listed == [i, j] && (decide (i < z) || !ti.has z) && (decide (j < z) || !tj.has z)
      | _, _ => false) && okT3 md ops z n ti (listed.setIfInBounds i true) && okT3 md ops z n tj (listed.setIfInBounds j true)
  | n + 1, .three i ti j tj k tk, listed =>
    (match ops[i]?, ops[j]?, ops[k]? with
      | some oi, some oj, some ok => !takes z oi i && !takes z oj j && !takes z ok k && Region.ready md ops listed == [i, j, k] && (decide (i < z) || !ti.has z) && (decide (j < z) || !tj.has z) && (decide (k < z) || !tk.has z)
      | _, _, _ => false) && okT3 md ops z n ti (listed.setIfInBounds i true) && okT3 md ops z n tj (listed.setIfInBounds j true) && okT3 md ops z n tk (listed.setIfInBounds k true)
  | _, _, _ => false
def OrdT3 (P : Program) (ops : Array Oper) (Q : Exit → Act → World → Prop) (S : World → Prop) (z : Nat) : O3 → Act → World → Prop
  | .nil, a, w => Q .normal a w
  | .one i t, a, w => stepT P ops Q S z i (OrdT3 P ops Q S z t) a w
  | .two i ti j tj, a, w => stepT P ops Q S z i (OrdT3 P ops Q S z ti) a w ∧ stepT P ops Q S z j (OrdT3 P ops Q S z tj) a w
  | .three i ti j tj k tk, a, w => stepT P ops Q S z i (OrdT3 P ops Q S z ti) a w ∧ stepT P ops Q S z j (OrdT3 P ops Q S z tj) a w ∧ stepT P ops Q S z k (OrdT3 P ops Q S z tk) a w

theorem ordT3_sound (hs : Region.noSelect ops = true) (hQ : ∀ c a d v w, Q (.panic c) (Act.put a (some d) v) w → Q (.panic c) a w) :
    ∀ (n : Nat) (t : O3) (listed : Array Bool) (a : Act) (w : World), okT3 md ops z n t listed = true → (t.has z = true → S w) → OrdT3 P ops Q S z t a w → AnyZ P md ops Q S z n listed a w := by
  intro n
  induction n with
  | zero =>
    intro t listed a w hok _ h
    cases t with
    | nil => exact ⟨by simpa [okT3] using hok, h⟩
    | one i t => simp [okT3] at hok
    | two i ti j tj => simp [okT3] at hok
    | three i ti j tj k tk => simp [okT3] at hok
  | succ n ih =>
    intro t listed a w hok hS h
    cases t with
    | nil => simp [okT3] at hok
    | one i t =>
      simp only [okT3, Bool.and_eq_true] at hok
      obtain ⟨hok, hrest⟩ := hok
      cases ho : ops[i]? with
      | none => rw [ho] at hok; cases hok
      | some o =>
        rw [ho] at hok
        have h1 := h o ho
        by_cases ht : takes z o i = true
        · simp only [ht, if_true] at hok h1
          obtain ⟨v, hy, hw⟩ := h1
          have hiz : i < z := takes_lt ht
          rw [Bool.and_eq_true, Bool.and_eq_true] at hok
          have hSw : S w := hS (by simp [O3.has, hiz])
          exact anyZ_first ho (Region.noSelect_spec hs) (fun c a w hp => by cases hd : o.dst with | none => rw [hd] at hp; exact hp | some d => rw [hd] at hp; exact hQ c a d v w hp) hok.2 hiz n listed a w (Region.free_spec ho hok.1.2) (by simpa using hok.1.1) hy hSw
            (ih _ _ _ _ hrest (fun _ => hSw) hw)
        · simp only [ht, if_false, Bool.false_eq_true] at hok h1
          rw [Bool.and_eq_true] at hok
          have hr : Region.ready md ops listed = [i] := by simpa using hok.1
          refine ⟨fun h0 => (by rw [hr] at h0; cases h0), fun j hj => ?_⟩
          rw [hr] at hj
          obtain rfl : j = i := by simpa using hj
          refine wpOp_mono (fun a' w' h' => ⟨h'.1, ih _ _ _ _ hrest (fun hh => ?_) h'.2⟩) h1
          have h2 := hok.2
          rw [Bool.or_eq_true] at h2
          rcases h2 with h2 | h2
          · exact h'.1 (by simpa using h2)
          · rw [hh] at h2; cases h2
    | two i ti j tj =>
      simp only [okT3, Bool.and_eq_true] at hok
      obtain ⟨⟨hok, hri⟩, hrj⟩ := hok
      cases hoi : ops[i]? with
      | none => rw [hoi] at hok; cases hok
      | some oi =>
        cases hoj : ops[j]? with
        | none => rw [hoi, hoj] at hok; cases hok
        | some oj =>
          rw [hoi, hoj] at hok
          simp only [Bool.and_eq_true] at hok
          obtain ⟨⟨⟨⟨hti, htj⟩, hr⟩, hzi⟩, hzj⟩ := hok
          have hr : Region.ready md ops listed = [i, j] := by simpa using hr
          obtain ⟨h1, h2⟩ := h
          have h1 := h1 oi hoi
          have h2 := h2 oj hoj
          rw [Bool.not_eq_true'] at hti htj
          rw [hti] at h1
          rw [htj] at h2
          simp only [Bool.false_eq_true, if_false] at h1 h2
          refine ⟨fun h0 => (by rw [hr] at h0; cases h0), fun k hk => ?_⟩
          rw [hr] at hk
          simp only [List.mem_cons, List.not_mem_nil, or_false] at hk
          rcases hk with rfl | rfl
          · refine wpOp_mono (fun a' w' h' => ⟨h'.1, ih _ _ _ _ hri (fun hh => ?_) h'.2⟩) h1
            rw [Bool.or_eq_true] at hzi
            rcases hzi with h2 | h2
            · exact h'.1 (by simpa using h2)
            · rw [hh] at h2; cases h2
          · refine wpOp_mono (fun a' w' h' => ⟨h'.1, ih _ _ _ _ hrj (fun hh => ?_) h'.2⟩) h2
            rw [Bool.or_eq_true] at hzj
            rcases hzj with h2 | h2
            · exact h'.1 (by simpa using h2)
            · rw [hh] at h2; cases h2
    | three i ti j tj k tk =>
      simp only [okT3, Bool.and_eq_true] at hok
      obtain ⟨⟨⟨hok, hri⟩, hrj⟩, hrk⟩ := hok
      cases hoi : ops[i]? with
      | none => rw [hoi] at hok; cases hok
      | some oi =>
        cases hoj : ops[j]? with
        | none => rw [hoi, hoj] at hok; cases hok
        | some oj =>
          cases hok' : ops[k]? with
          | none => rw [hoi, hoj, hok'] at hok; cases hok
          | some ok =>
            rw [hoi, hoj, hok'] at hok
            simp only [Bool.and_eq_true] at hok
            obtain ⟨⟨⟨⟨⟨⟨hti, htj⟩, htk⟩, hr⟩, hzi⟩, hzj⟩, hzk⟩ := hok
            have hr : Region.ready md ops listed = [i, j, k] := by simpa using hr
            obtain ⟨h1, h2, h3⟩ := h
            have h1 := h1 oi hoi
            have h2 := h2 oj hoj
            have h3 := h3 ok hok'
            rw [Bool.not_eq_true'] at hti htj htk
            rw [hti] at h1
            rw [htj] at h2
            rw [htk] at h3
            simp only [Bool.false_eq_true, if_false] at h1 h2 h3
            refine ⟨fun h0 => (by rw [hr] at h0; cases h0), fun q hq => ?_⟩
            rw [hr] at hq
            simp only [List.mem_cons, List.not_mem_nil, or_false] at hq
            rcases hq with rfl | rfl | rfl
            · refine wpOp_mono (fun a' w' h' => ⟨h'.1, ih _ _ _ _ hri (fun hh => ?_) h'.2⟩) h1
              rw [Bool.or_eq_true] at hzi
              rcases hzi with h2 | h2
              · exact h'.1 (by simpa using h2)
              · rw [hh] at h2; cases h2
            · refine wpOp_mono (fun a' w' h' => ⟨h'.1, ih _ _ _ _ hrj (fun hh => ?_) h'.2⟩) h2
              rw [Bool.or_eq_true] at hzj
              rcases hzj with h2 | h2
              · exact h'.1 (by simpa using h2)
              · rw [hh] at h2; cases h2
            · refine wpOp_mono (fun a' w' h' => ⟨h'.1, ih _ _ _ _ hrk (fun hh => ?_) h'.2⟩) h3
              rw [Bool.or_eq_true] at hzk
              rcases hzk with h2 | h2
              · exact h'.1 (by simpa using h2)
              · rw [hh] at h2; cases h2

/-- The beginning. -/
theorem wp_region_o3 {id : Nat} {a : Act} {w : World} (t : O3) (z : Nat) (S : World → Prop) (hm : P.follows .mixedOrders = true) (hs : Region.noSelect ops = true)
    (hok : okT3 .any ops z ops.size t (Array.replicate ops.size false) = true)
    (hQ : ∀ c a d v w, Q (.panic c) (Act.put a (some d) v) w → Q (.panic c) a w) (hS : S w.drew) (h : OrdT3 P ops Q S z t a w.drew) : (Code.region id ops true).wp P Q a w :=
  wp_region_any hm (any_of_z _ _ _ _ (ordT3_sound hs hQ _ t _ a w.drew hok (fun _ => hS) h))
/-- A region behind which what lay in W below B lies as it lay. -/
theorem wp_region_b3 {id : Nat} {a : Act} {w : World} (t : O3) (z : Nat) (B : Nat) (W : World) (hm : P.follows .mixedOrders = true) (hs : Region.noSelect ops = true)
    (hok : okT3 .any ops z ops.size t (Array.replicate ops.size false) = true)
    (hQ : ∀ c a d v w, Q (.panic c) (Act.put a (some d) v) w → Q (.panic c) a w) (hS : Below B W w) (h : ∀ wd, Below B W wd → OrdT3 P ops Q (Below B W) z t a wd) : (Code.region id ops true).wp P Q a w :=
  wp_region_o3 t z (Below B W) hm hs hok hQ hS.drew (h _ hS.drew)

theorem o3_nil {a : Act} {w : World} (h : Q .normal a w) : OrdT3 P ops Q S z .nil a w := h
theorem o3_two {i j : Nat} {ti tj : O3} {a : Act} {w : World} (h1 : OrdT3 P ops Q S z (.one i ti) a w) (h2 : OrdT3 P ops Q S z (.one j tj) a w) : OrdT3 P ops Q S z (.two i ti j tj) a w := ⟨h1, h2⟩
theorem o3_three {i j k : Nat} {ti tj tk : O3} {a : Act} {w : World} (h1 : OrdT3 P ops Q S z (.one i ti) a w) (h2 : OrdT3 P ops Q S z (.one j tj) a w) (h3 : OrdT3 P ops Q S z (.one k tk) a w) : OrdT3 P ops Q S z (.three i ti j tj k tk) a w := ⟨h1, h2, h3⟩
theorem o3_tk {i : Nat} {l : O3} {a : Act} {w : World} {o : Oper} {v : Value} {d : Nat} (ho : ops[i]? = some o) (hd : o.dst = some d) (ht : takes z o i = true)
    (hw : Region.wanted o (yielded ops a.tmps) = true) (hy : ∀ w, S w → (execOp a.eval o).run P w = .ok (.value v) w) (h : OrdT3 P ops Q S z l (a.put (some d) v) w) : OrdT3 P ops Q S z (.one i l) a w := by
  intro o' ho'
  obtain rfl : o = o' := by rw [ho] at ho'; exact Option.some.inj ho'
  rw [if_pos ht]
  exact ⟨v, .inl ⟨hw, hy⟩, hd ▸ h⟩
theorem o3_skip {i : Nat} {l : O3} {a : Act} {w : World} {o : Oper} {d : Nat} (ho : ops[i]? = some o) (hd : o.dst = some d)
    (hw : Region.wanted o (yielded ops a.tmps) = false) (hS : i < z → S w) (h : OrdT3 P ops Q S z l (a.put (some d) undef) w) : OrdT3 P ops Q S z (.one i l) a w := by
  intro o' ho'
  obtain rfl : o = o' := by rw [ho] at ho'; exact Option.some.inj ho'
  rw [← hd] at h
  by_cases ht : takes z o i = true
  · rw [if_pos ht]; exact ⟨undef, .inr ⟨hw, rfl⟩, h⟩
  · rw [if_neg ht]; unfold wpOp; simp only [ho, hw, Bool.false_eq_true, if_false]; exact ⟨hS, h⟩
theorem o3_do {i : Nat} {l : O3} {a : Act} {w : World} {o : Oper} (ho : ops[i]? = some o) (ht : takes z o i = false) (hw : Region.wanted o (yielded ops a.tmps) = true)
    (h : ∀ K : Act → World → Prop, Shut (∀ a w, (i < z → S w) → OrdT3 P ops Q S z l a w → K a w) → Oper.wp P o a w K Q) : OrdT3 P ops Q S z (.one i l) a w := by
  intro o' ho'
  obtain rfl : o = o' := by rw [ho] at ho'; exact Option.some.inj ho'
  rw [if_neg (by rw [ht]; exact Bool.false_ne_true)]
  unfold wpOp
  simp only [ho, hw, if_true]
  exact .inl (h _ (fun a' w' h1 h2 => ⟨h1, h2⟩))
end
end Go.Proofs.Ytneflhachjlmkaa
