
/- Regions that draw their order, walked over a tree of orders: the listed soft operations read no memory and need no condition on the world; every other order of the rest is walked. -/
import Derived.Test.YtkhkejdkakmiiaaGreatDoorBa
import Derived.Test.YtkhkejdkakmiiaaGreatDoorOrP
namespace Go.Proofs.YtkhkejdkakmiiaaGreatDoor
namespace OtS
open Go Go.RowKit OrP
section
variable {P : Program} {ops : Array Oper} {Q : Exit → Act → World → Prop} {md : Region.Mode} {m : List Nat}
def okS (md : Region.Mode) (ops : Array Oper) (m : List Nat) : Nat → Ot → Array Bool → Bool
  | 0, .nil, listed => (Region.ready md ops listed).isEmpty
  | n + 1, .one i t, listed =>
    (match ops[i]? with
      | some _ => if m.contains i then (Region.ready md ops listed).contains i && Region.free md ops listed i else Region.ready md ops listed == [i]
      | none => false) && okS md ops m n t (listed.setIfInBounds i true)
  | n + 1, .two i ti j tj, listed =>
    (match ops[i]?, ops[j]? with
      | some _, some _ => !m.contains i && !m.contains j && Region.ready md ops listed == [i, j]
      | _, _ => false) && okS md ops m n ti (listed.setIfInBounds i true) && okS md ops m n tj (listed.setIfInBounds j true)
  | _, _, _ => false
def stepS (P : Program) (ops : Array Oper) (Q : Exit → Act → World → Prop) (m : List Nat) (i : Nat) (K : Act → World → Prop) (a : Act) (w : World) : Prop := ∀ o, ops[i]? = some o →
    if m.contains i then ∃ v, YieldsIf P ops (fun _ => True) o v a ∧ K (a.put o.dst v) w
    else wpOp P ops Q i K a w
def OrdS (P : Program) (ops : Array Oper) (Q : Exit → Act → World → Prop) (m : List Nat) : Ot → Act → World → Prop
  | .nil, a, w => Q .normal a w
  | .one i t, a, w => stepS P ops Q m i (OrdS P ops Q m t) a w
  | .two i ti j tj, a, w => stepS P ops Q m i (OrdS P ops Q m ti) a w ∧ stepS P ops Q m j (OrdS P ops Q m tj) a w
theorem ob_true {i : Nat} (w w' : World) : Ob ops (fun _ => True) 0 i w w' := by unfold Ob; split <;> exact fun _ => trivial
theorem ordS_sound (hs : Region.noSelect ops = true) (hQ : ∀ c a d v w, Q (.panic c) (Act.put a (some d) v) w → Q (.panic c) a w) :
    ∀ (n : Nat) (t : Ot) (listed : Array Bool) (a : Act) (w : World), okS md ops m n t listed = true → OrdS P ops Q m t a w → AnyP P md ops Q (fun _ => True) 0 n listed a w := by
  intro n
  induction n with
  | zero =>
    intro t listed a w hok h
    cases t with
    | nil => exact ⟨by simpa [okS] using hok, h⟩
    | one i t => simp [okS] at hok
    | two i ti j tj => simp [okS] at hok
  | succ n ih =>
    intro t listed a w hok h
    cases t with
    | nil => simp [okS] at hok
    | one i t =>
      simp only [okS, Bool.and_eq_true] at hok
      obtain ⟨hok, hrest⟩ := hok
      cases ho : ops[i]? with
      | none => rw [ho] at hok; cases hok
      | some o =>
        rw [ho] at hok
        have h1 := h o ho
        by_cases ht : m.contains i = true
        · simp only [ht, if_true] at hok h1
          obtain ⟨v, hy, hw⟩ := h1
          rw [Bool.and_eq_true] at hok
          exact anyP_first (fun _ => True) ho (Region.noSelect_spec hs) (fun c a w hp => by cases hd : o.dst with | none => rw [hd] at hp; exact hp | some d => rw [hd] at hp; exact hQ c a d v w hp) (fun w _ => ob_true w w) (fun _ _ _ _ _ _ _ _ => trivial) n listed a w (Region.free_spec ho hok.2) (by simpa using hok.1) hy trivial
            (ih _ _ _ _ hrest hw)
        · simp only [ht, if_false, Bool.false_eq_true] at hok h1
          have hr : Region.ready md ops listed = [i] := by simpa using hok
          refine ⟨fun h0 => (by rw [hr] at h0; cases h0), fun j hj => ?_⟩
          rw [hr] at hj
          obtain rfl : j = i := by simpa using hj
          exact wpOp_mono (fun a' w' h' => ⟨ob_true w w', ih _ _ _ _ hrest h'⟩) h1
    | two i ti j tj =>
      simp only [okS, Bool.and_eq_true] at hok
      obtain ⟨⟨hok, hri⟩, hrj⟩ := hok
      cases hoi : ops[i]? with
      | none => rw [hoi] at hok; cases hok
      | some oi =>
        cases hoj : ops[j]? with
        | none => rw [hoi, hoj] at hok; cases hok
        | some oj =>
          rw [hoi, hoj] at hok
          simp only [Bool.and_eq_true] at hok
          obtain ⟨⟨hti, htj⟩, hr⟩ := hok
          have hr : Region.ready md ops listed = [i, j] := by simpa using hr
          obtain ⟨h1, h2⟩ := h
          have h1 := h1 oi hoi
          have h2 := h2 oj hoj
          rw [Bool.not_eq_true'] at hti htj
          rw [hti] at h1
          rw [htj] at h2
          simp only [Bool.false_eq_true, if_false] at h1 h2
          refine ⟨fun h0 => (by rw [hr] at h0; cases h0), fun k hk => ?_⟩
          rw [hr] at hk
          simp only [List.mem_cons, List.not_mem_nil, or_false] at hk
          rcases hk with rfl | rfl
          · exact wpOp_mono (fun a' w' h' => ⟨ob_true w w', ih _ _ _ _ hri h'⟩) h1
          · exact wpOp_mono (fun a' w' h' => ⟨ob_true w w', ih _ _ _ _ hrj h'⟩) h2
/-- A region, walked over the tree. -/
theorem wp_region_os {id : Nat} {a : Act} {w : World} (t : Ot) (m : List Nat) (hm : P.follows .mixedOrders = true) (hs : Region.noSelect ops = true)
    (hok : okS .any ops m ops.size t (Array.replicate ops.size false) = true)
    (hQ : ∀ c a d v w, Q (.panic c) (Act.put a (some d) v) w → Q (.panic c) a w) (h : ∀ wd, Below w.heap.size w wd → OrdS P ops Q m t a wd) : (Code.region id ops true).wp P Q a w :=
  wp_region_any hm (any_of_p _ _ _ _ (ordS_sound hs hQ _ t _ a w.drew hok (h _ (Below.refl _ _).drew)))
theorem os_nil {a : Act} {w : World} (h : Q .normal a w) : OrdS P ops Q m .nil a w := h
theorem os_two {i j : Nat} {ti tj : Ot} {a : Act} {w : World} (h1 : OrdS P ops Q m (.one i ti) a w) (h2 : OrdS P ops Q m (.one j tj) a w) : OrdS P ops Q m (.two i ti j tj) a w := ⟨h1, h2⟩
theorem os_tk {i : Nat} {l : Ot} {a : Act} {w : World} {o : Oper} {v : Value} {d : Nat} (ho : ops[i]? = some o) (hd : o.dst = some d) (ht : m.contains i = true)
    (hw : Region.wanted o (yielded ops a.tmps) = true) (hy : ∀ w, True → (execOp a.eval o).run P w = .ok (.value v) w) (h : OrdS P ops Q m l (a.put (some d) v) w) : OrdS P ops Q m (.one i l) a w := by
  intro o' ho'
  obtain rfl : o = o' := by rw [ho] at ho'; exact Option.some.inj ho'
  rw [if_pos ht]
  exact ⟨v, .inl ⟨hw, hy⟩, hd ▸ h⟩
theorem os_do {i : Nat} {l : Ot} {a : Act} {w : World} {o : Oper} (ho : ops[i]? = some o) (ht : m.contains i = false) (hw : Region.wanted o (yielded ops a.tmps) = true)
    (h : ∀ K : Act → World → Prop, Shut (∀ a w, OrdS P ops Q m l a w → K a w) → Oper.wp P o a w K Q) : OrdS P ops Q m (.one i l) a w := by
  intro o' ho'
  obtain rfl : o = o' := by rw [ho] at ho'; exact Option.some.inj ho'
  rw [if_neg (by rw [ht]; exact Bool.false_ne_true)]
  unfold wpOp
  simp only [ho, hw, if_true]
  exact .inl (h _ (fun a' w' h2 => h2))
end
end OtS
end Go.Proofs.YtkhkejdkakmiiaaGreatDoor
