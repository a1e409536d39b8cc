
/- Regions that draw their order, by a tree of orders, where an operation may wait for a load through other operations. A map of integers beside what the call owns; leaders and values in hand. The walk of the program's condense. The walks of l11Isotropy and of CondenseMetric of both sides. The walks of QuotientGauss of both sides. The walk of l11Sorted: a list in ascending order, by insertion. The walks of ValuesInOrder of both sides. -/
import Derived.Test.YtbpihnpakolooaaGreatDoorBa
import Derived.Test.YtbpihnpakolooaaGreatDoorQNa
import Derived.Maps.OwnSet
import Derived.Test.YtbpihnpakolooaaGreatDoorP1a
import Derived.Test.YtbpihnpakolooaaGreatDoorAP
import Derived.Test.YtbpihnpakolooaaGreatDoorMWy
import Derived.Test.YtbpihnpakolooaaGreatDoorGN
import Derived.Test.YtbpihnpakolooaaGreatDoorEa
import Derived.Test.YtbpihnpakolooaaGreatDoorLa
import Derived.WalkLawsBesides
namespace Go.Proofs.YtbpihnpakolooaaGreatDoor
open Go Go.RowKit Grp
set_option linter.unusedVariables false
set_option linter.unusedSimpArgs false
set_option maxRecDepth 100000
section
variable {P : Program} {ops : Array Oper} {Q : Exit → Act → World → Prop} {md : Region.Mode} {S : World → Prop} {z : Nat}
def depB (md : Region.Mode) (ops : Array Oper) : Nat → Nat → Nat → Bool
 | 0, _, _ => false
 | n + 1, j, i => match ops[j]? with
  | some o => o.after.any fun e => Region.binds md e && (e.on == i || depB md ops n e.on i)
  | none => false
def waitedT (md : Region.Mode) (ops : Array Oper) (z i : Nat) : Bool := (List.range ops.size).all fun j => decide (j < z) || depB md ops ops.size j i
def ClL (md : Region.Mode) (ops : Array Oper) (listed : Array Bool) : Prop := ∀ j o, ops[j]? = some o → listed.getD j false = true → ∀ e ∈ o.after, Region.binds md e = true → listed.getD e.on false = true
theorem dep_listed {listed : Array Bool} (hc : ClL md ops listed) {i : Nat} : ∀ (n j : Nat), listed.getD j false = true → depB md ops n j i = true → listed.getD i false = true := by
 intro n
 induction n with
 | zero => intro j _ h; cases h
 | succ n ih =>
  intro j hj h
  unfold depB at h
  cases ho : ops[j]? with
  | none => rw [ho] at h; cases h
  | some o =>
   rw [ho] at h
   obtain ⟨e, he, hb⟩ := Array.any_eq_true'.1 h
   rw [Bool.and_eq_true, Bool.or_eq_true] at hb
   have h1 := hc j o ho hj e he hb.1
   rcases hb.2 with h2 | h2
   ·have : e.on = i := by simpa using h2
    rw [← this]; exact h1
   ·exact ih _ h1 h2
theorem ready_dep {listed : Array Bool} (hc : ClL md ops listed) {i j : Nat} (hj : j ∈ Region.ready md ops listed) (n : Nat) (h : depB md ops n j i = true) : listed.getD i false = true := by
 obtain ⟨_, o, ho, hall⟩ := mem_ready.1 hj
 cases n with
 | zero => cases h
 | succ n =>
  unfold depB at h
  rw [ho] at h
  obtain ⟨e, he, hb⟩ := Array.any_eq_true'.1 h
  rw [Bool.and_eq_true, Bool.or_eq_true] at hb
  have h1 := hall e he hb.1
  rcases hb.2 with h2 | h2
  ·have : e.on = i := by simpa using h2
   rw [← this]; exact h1
  ·exact dep_listed hc n _ h1 h2
theorem not_ready_T {i j : Nat} {listed : Array Bool} (hc : ClL md ops listed) (h : waitedT md ops z i = true) (hi : listed.getD i true = false) (hj : j ∈ Region.ready md ops listed) : j < z := by
 obtain ⟨_, o, ho, _⟩ := mem_ready.1 hj
 simp only [waitedT, List.all_eq_true, List.mem_range] at h
 have h1 := h j (Array.getElem?_eq_some_iff.1 ho).1
 simp only [Bool.or_eq_true, decide_eq_true_eq] at h1
 rcases h1 with h1 | h1
 ·exact h1
 ·have h2 := ready_dep hc hj _ h1
  rcases Nat.lt_or_ge i listed.size with h' | h'
  ·simp [h'] at hi h2; rw [hi] at h2; cases h2
  ·simp [Array.getElem?_eq_none h'] at h2
theorem listed_mono {listed : Array Bool} {i k : Nat} (h : listed.getD k false = true) : (listed.setIfInBounds i true).getD k false = true := by
 by_cases e : i = k
 ·subst e
  rcases Nat.lt_or_ge i listed.size with h' | h'
  ·simp [h']
  ·simp [Array.getElem?_eq_none h'] at h
 ·rw [getD_set_ne false e]; exact h
theorem ClL.step {listed : Array Bool} (hc : ClL md ops listed) {i : Nat} (hi : i ∈ Region.ready md ops listed) : ClL md ops (listed.setIfInBounds i true) := by
 intro j o ho hj e he hb
 by_cases hji : i = j
 ·subst hji
  obtain ⟨_, o', ho', hall⟩ := mem_ready.1 hi
  rw [ho] at ho'
  obtain rfl := Option.some.inj ho'
  exact listed_mono (hall e he hb)
 ·rw [getD_set_ne false hji] at hj
  exact listed_mono (hc j o ho hj e he hb)
theorem ClL.start (n : Nat) : ClL md ops (Array.replicate n false) := by
 intro j o _ hj
 exfalso
 rcases Nat.lt_or_ge j n with h | h
 ·simp [h] at hj
 ·simp [Array.getElem?_eq_none (show (Array.replicate n false).size ≤ j by simpa using h)] at hj
theorem anyZ_firstT {i : Nat} {oi : Oper} {v : Value} (hi : ops[i]? = some oi) (hsel : ∀ (j : Nat) (o : Oper) cs b, ops[j]? = some o → o.op ≠ .select cs b)
  (hQ : ∀ c a w, Q (.panic c) (a.put oi.dst v) w → Q (.panic c) a w) (hwt : waitedT md ops z i = true) (hiz : i < z) :
  ∀ (fuel : Nat) (listed : Array Bool) (a : Act) (w : World), ClL md ops listed →
   (∀ j oj, ops[j]? = some oj → j ≠ i → listed.getD j true = false → (∀ e ∈ oj.after, Region.binds md e = true → e.on ≠ i) → oi.apart ops oj = true) →
   i ∈ Region.ready md ops listed → YieldsIf P ops S oi v a → S w →
   AnyZ P md ops Q S z fuel (listed.setIfInBounds i true) (a.put oi.dst v) w → AnyZ P md ops Q S z (fuel + 1) listed a w := by
 intro fuel
 induction fuel with
 | zero =>
  intro listed a w hcl _ hr hy hS H
  refine ⟨fun h => (by rw [h] at hr; cases hr), fun j hj => ?_⟩
  by_cases hji : j = i
  ·subst hji; exact hy.wpOp hi hS ⟨fun _ => hS, H⟩
  ·have := ready_mono hj hji
   rw [H.1] at this
   cases this
 | succ fuel ih =>
  intro listed a w hcl hfree hr hy hS H
  refine ⟨fun h => (by rw [h] at hr; cases hr), fun j hj => ?_⟩
  by_cases hji : j = i
  ·subst hji; exact hy.wpOp hi hS ⟨fun _ => hS, H⟩
  ·have hjz : j < z := not_ready_T hcl hwt (mem_ready.1 hr).1 hj
   have h1 := H.2 j (ready_mono hj hji)
   obtain ⟨hjun, oj, hoj, hall⟩ := mem_ready.1 hj
   have hnot : ∀ e ∈ oj.after, Region.binds md e = true → e.on ≠ i := fun e he hb heq => by
    have h1 := hall e he hb
    have h0 := (mem_ready.1 hr).1
    rw [heq] at h1
    rcases Nat.lt_or_ge i listed.size with h' | h'
    ·simp [h'] at h0 h1; rw [h0] at h1; cases h1
    ·simp [Array.getElem?_eq_none h'] at h1
   have h2 := wpOp_putIf hoj (hfree j oj hoj hji hjun hnot) (fun cs b => hsel i oi cs b hi) (fun cs b => hsel j oj cs b hoj) hQ hy h1
   have hfree' : ∀ k ok, ops[k]? = some ok → k ≠ i → (listed.setIfInBounds j true).getD k true = false →
     (∀ e ∈ ok.after, Region.binds md e = true → e.on ≠ i) → oi.apart ops ok = true := fun k ok hk hki hun hno => by
    refine hfree k ok hk hki ?_ hno
    by_cases hjk : j = k
    ·subst hjk; exact hjun
    ·rw [getD_set_ne true hjk] at hun; exact hun
   refine wpOp_mono (fun a' w' h3 => ⟨h3.2.1, ih (listed.setIfInBounds j true) a' w' (hcl.step hj) hfree' (ready_mono hr (Ne.symm hji)) h3.1 (h3.2.1 hjz) ?_⟩) h2
   rw [Array.setIfInBounds_comm _ _ hji]
   exact h3.2.2
def okTc (md : Region.Mode) (ops : Array Oper) (z : Nat) : Nat → Ot → Array Bool → Bool
 | 0, .nil, listed => (Region.ready md ops listed).isEmpty
 | n + 1, .one i t, listed =>
  (match ops[i]? with
   | some o => if takes z o i then (Region.ready md ops listed).contains i && Region.free md ops listed i && waitedT md ops z i else Region.ready md ops listed == [i] && (decide (i < z) || !t.has z)
   | none => false) && okTc md ops z n t (listed.setIfInBounds i true)
 | n + 1, .two i ti j tj, listed =>
  (match ops[i]?, ops[j]? with
   | some oi, some oj => !takes z oi i && !takes z oj j && Region.ready md ops listed == [i, j] && (decide (i < z) || !ti.has z) && (decide (j < z) || !tj.has z)
   | _, _ => false) && okTc md ops z n ti (listed.setIfInBounds i true) && okTc md ops z n tj (listed.setIfInBounds j true)
 | _, _, _ => false
theorem ordTc_sound (hs : Region.noSelect ops = true) (hQ : ∀ c a d v w, Q (.panic c) (Act.put a (some d) v) w → Q (.panic c) a w) :
  ∀ (n : Nat) (t : Ot) (listed : Array Bool) (a : Act) (w : World), ClL md ops listed → okTc md ops z n t listed = true → (t.has z = true → S w) → OrdT P ops Q S z t a w → AnyZ P md ops Q S z n listed a w := by
 intro n
 induction n with
 | zero =>
  intro t listed a w _ hok _ h
  cases t with
  | nil => exact ⟨by simpa [okTc] using hok, h⟩
  | one i t => simp [okTc] at hok
  | two i ti j tj => simp [okTc] at hok
 | succ n ih =>
  intro t listed a w hcl hok hS h
  cases t with
  | nil => simp [okTc] at hok
  | one i t =>
   simp only [okTc, Bool.and_eq_true] at hok
   obtain ⟨hok, hrest⟩ := hok
   cases ho : ops[i]? with
   | none => rw [ho] at hok; cases hok
   | some o =>
    rw [ho] at hok
    have h1 := h o ho
    by_cases ht : takes z o i = true
    ·simp only [ht, if_true] at hok h1
     obtain ⟨v, hy, hw⟩ := h1
     have hiz : i < z := takes_lt ht
     rw [Bool.and_eq_true, Bool.and_eq_true] at hok
     have hir : i ∈ Region.ready md ops listed := by simpa using hok.1.1
     have hSw : S w := hS (by simp [Ot.has, hiz])
     exact anyZ_firstT ho (Region.noSelect_spec hs) (fun c a w hp => by cases hd : o.dst with | none => rw [hd] at hp; exact hp | some d => rw [hd] at hp; exact hQ c a d v w hp) hok.2 hiz n listed a w hcl (Region.free_spec ho hok.1.2) hir hy hSw
      (ih _ _ _ _ (hcl.step hir) hrest (fun _ => hSw) hw)
    ·simp only [ht, if_false, Bool.false_eq_true] at hok h1
     rw [Bool.and_eq_true] at hok
     have hr : Region.ready md ops listed = [i] := by simpa using hok.1
     refine ⟨fun h0 => (by rw [hr] at h0; cases h0), fun j hj => ?_⟩
     rw [hr] at hj
     obtain rfl : j = i := by simpa using hj
     refine wpOp_mono (fun a' w' h' => ⟨h'.1, ih _ _ _ _ (hcl.step (by rw [hr]; simp)) hrest (fun hh => ?_) h'.2⟩) h1
     have h2 := hok.2
     rw [Bool.or_eq_true] at h2
     rcases h2 with h2 | h2
     ·exact h'.1 (by simpa using h2)
     ·rw [hh] at h2; cases h2
  | two i ti j tj =>
   simp only [okTc, Bool.and_eq_true] at hok
   obtain ⟨⟨hok, hri⟩, hrj⟩ := hok
   cases hoi : ops[i]? with
   | none => rw [hoi] at hok; cases hok
   | some oi =>
    cases hoj : ops[j]? with
    | none => rw [hoi, hoj] at hok; cases hok
    | some oj =>
     rw [hoi, hoj] at hok
     simp only [Bool.and_eq_true] at hok
     obtain ⟨⟨⟨⟨hti, htj⟩, hr⟩, hzi⟩, hzj⟩ := hok
     have hr : Region.ready md ops listed = [i, j] := by simpa using hr
     obtain ⟨h1, h2⟩ := h
     have h1 := h1 oi hoi
     have h2 := h2 oj hoj
     rw [Bool.not_eq_true'] at hti htj
     rw [hti] at h1
     rw [htj] at h2
     simp only [Bool.false_eq_true, if_false] at h1 h2
     refine ⟨fun h0 => (by rw [hr] at h0; cases h0), fun k hk => ?_⟩
     have hkr := hk
     rw [hr] at hk
     simp only [List.mem_cons, List.not_mem_nil, or_false] at hk
     rcases hk with rfl | rfl
     ·refine wpOp_mono (fun a' w' h' => ⟨h'.1, ih _ _ _ _ (hcl.step hkr) hri (fun hh => ?_) h'.2⟩) h1
      rw [Bool.or_eq_true] at hzi
      rcases hzi with h2 | h2
      ·exact h'.1 (by simpa using h2)
      ·rw [hh] at h2; cases h2
     ·refine wpOp_mono (fun a' w' h' => ⟨h'.1, ih _ _ _ _ (hcl.step hkr) hrj (fun hh => ?_) h'.2⟩) h2
      rw [Bool.or_eq_true] at hzj
      rcases hzj with h2 | h2
      ·exact h'.1 (by simpa using h2)
      ·rw [hh] at h2; cases h2
theorem wp_region_otc {id : Nat} {a : Act} {w : World} (t : Ot) (z : Nat) (S : World → Prop) (hm : P.follows .mixedOrders = true) (hs : Region.noSelect ops = true)
  (hok : okTc .any ops z ops.size t (Array.replicate ops.size false) = true)
  (hQ : ∀ c a d v w, Q (.panic c) (Act.put a (some d) v) w → Q (.panic c) a w) (hS : S w.drew) (h : OrdT P ops Q S z t a w.drew) : (Code.region id ops true).wp P Q a w :=
 wp_region_any hm (any_of_z _ _ _ _ (ordTc_sound hs hQ _ t _ a w.drew (ClL.start _) hok (fun _ => hS) h))
end
theorem law64 : Maps.Keyed Tryz.prog 2 := Maps.int_keyed Tryz.underlying2
theorem zero64 (w : World) : (zeroValue 2).run Tryz.prog w = .ok (.int .i64 0) w := by kernel_rfl
theorem key64 {x : Int} (h : i64ok x) : keyOf Tryz.prog 2 (.int .i64 x) = some (.int .i64 x) := Maps.keyOf_int_mk Tryz.underlying2 (WalkArith.wf_i64 (by unfold i64ok at h; omega))
def Mp (w : World) (b n : Nat) (M : DataW Unit) : Prop := w.ownsMap Tryz.prog 2 (plainElem Tryz.prog 2) b n M
section
variable {w w' : World} {b n : Nat} {M : DataW Unit}
theorem Mp.lt (h : Mp w b n M) : b < w.heap.size := World.ownsMap.lt h
theorem Mp.below (h : Mp w b n M) (hb : Below w.heap.size w w') : Mp w' b n M := by
 have hlt := h.lt
 obtain ⟨es, clock, h1, r⟩ := h
 exact ⟨es, clock, (hb.block b hlt).trans h1, r⟩
theorem Mp.grown (h : Mp w b n M) {row : Option Nat} (hg : w.grownBy w' row) (hne : some b ≠ row) : Mp w' b n M := World.ownsMap.kept h hg hne
theorem Mp.setCell (h : Mp w b n M) {p : Addr} (hp : b ≠ p.block) (u : Value) : Mp (w.setCell p u) b n M := World.ownsMap.setCell h hp u
theorem Mp.ne (h : Mp w b n M) {g : Nat} {t : TypeId} {cs : Array Value} (hb : Blk w g t cs) : b ≠ g := by
 obtain ⟨es, clock, h1, _⟩ := h
 rintro rfl
 unfold Blk at hb
 rw [h1] at hb
 cases hb
theorem Mp.neO (h : Mp w b n M) {B : Nat} {v : Value} {xs : List Int} (ho : Ow w B v xs) : some b ≠ v.ownBlock := by
 obtain ⟨es, clock, h1, _⟩ := h
 obtain ⟨_, h2⟩ := ho
 rcases h2 with ⟨rfl, _⟩ | ⟨g, cap, cur, rfl, hg, hh, _⟩
 ·simp [Value.ownBlock]
 ·simp only [Value.ownBlock]
  intro e
  injection e with e
  subst e
  rw [h1] at hh
  cases hh
end
theorem wp_mapSet {o : Oper} {a : Act} {K : Act → World → Prop} {Q : Exit → Act → World → Prop} (w : World) (m x v : Operand) (t : TypeId) (hop : o.op = Op.mapUpdate t m x v) (ht : Tryz.prog.underlying t = some (.map 2 2))
  (b n : Nat) (M : DataW Unit) (hm : a.eval m = .map (some b)) (hown : Mp w b n M) (hn : n < 1048576) (x0 y0 : Int) (hx : a.eval x = .int .i64 x0) (hv : a.eval v = .int .i64 y0) (hx0 : i64ok x0) (hy0 : i64ok y0)
  (hK : ∀ w', Mp w' b (n + 1) (M.put (.int .i64 x0) (.lit (.int .i64 y0))) → w.grownBy w' (some b) → K (a.put o.dst undef) w') : o.wp Tryz.prog a w K Q := by
 obtain ⟨w', hrun, r1, r2⟩ := World.ownsMap.update hown law64 ht (by unfold maxLen; omega) (key64 hx0) (plainElem_int Tryz.underlying2 (a := y0) (WalkArith.wf_i64 (by unfold i64ok at hy0; omega)))
 unfold Oper.wp
 simp [execOp, hop, hm, hx, hv, hrun, Result.andThen]
 exact hK w' r1 r2
theorem wp_pushN {o : Oper} {a : Act} {K : Act → World → Prop} {Q : Exit → Act → World → Prop} (w : World) (s x : Operand)
  (ho : o.op = .call { callee := .builtin .append, args := #[s, x], argTypes := #[24, 24] })
  (B : Nat) (v : Value) (xs : List Int) (hs : a.eval s = v) (hown : Ow w B v xs) (y : Int) (H T N : Nat) (hx : a.eval x = .slice (some ⟨H, 0, none⟩) 1 1) (hb : Blk w H T #[.int .i64 y])
  (hn : xs.length ≤ 1048576) (hB : B ≤ w.heap.size) (hH : w.heap.size = N + 1)
  (h : ∀ g cap w', Pushed w B v xs y N g cap w' → K (a.put o.dst (.slice (some ⟨g, 0, none⟩) (xs.length + 1) cap)) w') : o.wp Tryz.prog a w K Q := by
 obtain ⟨i0, hi0, hz0, hz1, hz2⟩ := info_parts int_info
 refine wp_append_lies w s x _ ho B 2 i0 _ 1 8 Tryz.underlying24 hi0 hz0 hz1 hz2 rfl (by omega) v xs.length _ hs hown ⟨H, 0, none⟩ 1 1 [.int .i64 y] hx rfl
  (World.news_of_block (cs := #[.int .i64 y]) hb) (by simp [Value.oneCell']) (by omega) (by unfold maxLen; omega) (by omega) hB (N + 1) hH ?_
 intro g cap w' h2 h3 h4 h5
 refine h g cap w' ⟨?_, h3, h4, h5⟩
 unfold Ow
 simpa using h2
structure QHd (w : World) (g bM n : Nat) (M : DataW Unit) (vO v1 v2 vL vV : Value) (O L V : List Int) (q : Int) (wr : World) : Prop where
 orth : Ow wr w.heap.size vO O
 out : Blk wr g 31 #[v1, .slice none 0 0, .int .i64 q, v2]
 lds : Ow wr w.heap.size vL L
 vals : Ow wr w.heap.size vV V
 aO : Apart vO vL
 aV : Apart vO vV
 aL : Apart vL vV
 mp : Mp wr bM n M
 below : Below w.heap.size w wr
section
variable {w wr w1 w2 : World} {g bM n : Nat} {M : DataW Unit} {vO v1 v2 vL vV : Value} {O L V : List Int} {q : Int}
theorem QIn.hand (h : QIn w g vO vL vV O L V q wr) (hM : Mp wr bM n M) : QHd w g bM n M vO vL vV vL vV O L V q wr := ⟨h.orth, h.out, h.lds, h.vals, h.aO, h.aV, h.aL, hM, h.below⟩
theorem QHd.all (h : QHd w g bM n M vO v1 v2 vL vV O L V q wr) (hb : Below wr.heap.size wr w1) : QHd w g bM n M vO v1 v2 vL vV O L V q w1 :=
 ⟨h.orth.below hb, h.out.all hb, h.lds.below hb, h.vals.below hb, h.aO, h.aV, h.aL, h.mp.below hb, h.below.trans (hb.mono h.below.size)⟩
theorem QHd.pushL (h : QHd w g bM n M vO v1 v2 vL vV O L V q wr) {y : Int} {N g' cap : Nat} (hN : ∀ b v xs, Ow wr w.heap.size v xs → v.ownBlock = some b → b ≠ N + 1) (hP : Pushed wr w.heap.size vL L y N g' cap w2) :
  QHd w g bM n M vO v1 v2 (.slice (some ⟨g', 0, none⟩) (L.length + 1) cap) vV O (L ++ [y]) V q w2 :=
 ⟨hP.far h.orth h.aO, hP.blk h.lds h.out (by decide), hP.own, hP.far h.vals h.aL.symm, hP.apart (fun b hb => hN b _ _ h.orth hb) h.aO, h.aV, (hP.apart (fun b hb => hN b _ _ h.vals hb) h.aL.symm).symm, h.mp.grown hP.2.1 (h.mp.neO h.lds), h.below.trans (hP.below h.lds h.below.size)⟩
theorem QHd.pushV (h : QHd w g bM n M vO v1 v2 vL vV O L V q wr) {y : Int} {N g' cap : Nat} (hN : ∀ b v xs, Ow wr w.heap.size v xs → v.ownBlock = some b → b ≠ N + 1) (hP : Pushed wr w.heap.size vV V y N g' cap w2) :
  QHd w g bM n M vO v1 v2 vL (.slice (some ⟨g', 0, none⟩) (V.length + 1) cap) O L (V ++ [y]) q w2 :=
 ⟨hP.far h.orth h.aV, hP.blk h.vals h.out (by decide), hP.far h.lds h.aL, hP.own, h.aO, hP.apart (fun b hb => hN b _ _ h.orth hb) h.aV, hP.apart (fun b hb => hN b _ _ h.lds hb) h.aL, h.mp.grown hP.2.1 (h.mp.neO h.vals), h.below.trans (hP.below h.vals h.below.size)⟩
theorem QHd.stores (h : QHd w g bM n M vO v1 v2 vL vV O L V q wr) (hg : w.heap.size ≤ g) :
  QIn w g vO vL vV O L V q ((wr.setCell ⟨g, 0, none⟩ vL).setCell ⟨g, 3, none⟩ vV) ∧ Mp ((wr.setCell ⟨g, 0, none⟩ vL).setCell ⟨g, 3, none⟩ vV) bM n M := by
 have o1 := h.out.store 0 vL
 have hne := h.mp.ne h.out
 exact ⟨⟨(h.orth.setCell h.out (by decide) _ _).setCell o1 (by decide) _ _, o1.store 3 _, (h.lds.setCell h.out (by decide) _ _).setCell o1 (by decide) _ _, (h.vals.setCell h.out (by decide) _ _).setCell o1 (by decide) _ _, h.aO, h.aV, h.aL, (h.below.setCell hg _).setCell hg _⟩, (h.mp.setCell hne _).setCell hne _⟩
theorem QIn.map (h : QIn w g vO vL vV O L V q wr) (hM : Mp wr bM n M) (hg : wr.grownBy w1 (some bM)) (hB : w.heap.size ≤ bM) : QIn w g vO vL vV O L V q w1 := by
 have hw : Wr wr w1 (fun b => b = bM) := Wr.of_grown hg (fun b e => by injection e with e; exact e.symm)
 refine ⟨hw.own h.orth (fun b hb e => hM.neO h.orth (by rw [hb, e])), hw.blk h.out (hM.ne h.out).symm, hw.own h.lds (fun b hb e => hM.neO h.lds (by rw [hb, e])), hw.own h.vals (fun b hb e => hM.neO h.vals (by rw [hb, e])), h.aO, h.aV, h.aL, h.below.trans (hw.below (fun b hb => by omega) h.below.size)⟩
end
set_option maxHeartbeats 8000000 in
theorem condense_any (w : World) (A : Option Addr) (n c : Nat) (os : List Int) (D : Int) (A' : Option Addr) (n' c' : Nat) (vs : List Int) (L : Option Addr) (l lc : Nat) (xs : List Int)
  (h : Sl w w.heap.size A n c os) (h' : Sl w w.heap.size A' n' c' vs) (hx : Sl w w.heap.size L l lc xs) (hl : l ≤ 1048576) (hC : Cs os D vs xs) :
  Calls Tryz.prog 48 #[.agg #[.slice A n c, .int .i64 D, .slice A' n' c'], .slice L l lc] w (MkE quotient_E w (condQ os D vs xs)) := by
 obtain rfl := h'.len
 obtain rfl := hx.len
 obtain ⟨O, hOe⟩ : ∃ O, ortL os D vs xs vs.length = O := ⟨_, rfl⟩
 have HC := hide hC
 have HOe := hide hOe.symm
 have hG := hC.g
 have hO16 := hC.lenO hOe.symm
 have h0O : 0 ∈ O := hC.subO hOe.symm hC.zero
 have HN := hide hC.m.ok.len
 have hok := hide hC.m.ok
 have HI := hide hC.rng
 have hp16 := hG.p16
 have hx16 := hC.len (fun _ => trivial)
 have hQ : condQ os D vs xs = (ldL os xs O O.length, ctab os xs (ldL os xs O O.length), D, (ldL os xs O O.length).map (Vl vs)) := by unfold condQ ldO; rw [hOe]
 have HQ := hide hQ
 clear hQ hC
 have hmm := @run_makeMap Tryz.prog
 go_enter Tryz.func48, Tryz.ntmps48
 go_wp2_with fail
 obtain ⟨W, hW⟩ : ∃ W, (w.alloc (.cells #[.slice A n c, .int .i64 D, .slice A' vs.length c'] 26)).alloc (.cells #[.slice none 0 0, .slice none 0 0, .int .i64 0, .slice none 0 0] 31) = W := ⟨_, rfl⟩
 have hbW : Below w.heap.size w W := by rw [← hW]; exact (by repeat (first | assumption | exact Below.refl _ _ | apply below_drewN | apply Below.drew | apply Below.alloc | apply Below.setCell | omega | (focus (simp; done)) | (focus (simp; omega))))
 have hszW : w.heap.size < W.heap.size := by rw [← hW]; simp; omega
 have hsW := hide (show W.heap.size = w.heap.size + 2 by rw [← hW]; simp)
 have bM : Blk W w.heap.size 26 #[.slice A n c, .int .i64 D, .slice A' vs.length c'] := by rw [← hW]; exact (Blk.new _ _ _).alloc _
 have bR : Blk W (w.heap.size + 1) 31 #[.slice none 0 0, .slice none 0 0, .int .i64 0, .slice none 0 0] := by rw [← hW]; exact Blk.new' _ _ _ _ (by simp)
 have q0 := bM.cell 0
 have q1 := bM.cell 1
 have q2 := bM.cell 2
 rw [hW]
 clear hW hmm
 obtain ⟨m, hm⟩ : ∃ m, w.heap.size + 1 + 1 = m := ⟨_, rfl⟩
 rw [hm]
 have hWm : W.heap.size = m := by have := hsW.out; omega
 obtain ⟨g, hg⟩ : ∃ g, m + 1 = g := ⟨_, rfl⟩
 rw [hg]
 have hgW : W.heap.size ≤ g := by omega
 have hmW : W.heap.size ≤ m := by omega
 have hs := (h.below hbW).more (Nat.le_of_lt hszW)
 have hs' := (h'.below hbW).more (Nat.le_of_lt hszW)
 have hxs := (hx.below hbW).more (Nat.le_of_lt hszW)
 have hsl : ∀ wd, Below W.heap.size W wd → Sl wd wd.heap.size A n c os := fun wd h => (hs.below h).more h.size
 have hsv : ∀ wd, Below W.heap.size W wd → Sl wd wd.heap.size A' vs.length c' vs := fun wd h => (hs'.below h).more h.size
 have hsx : ∀ wd, Below W.heap.size W wd → Sl wd wd.heap.size L xs.length lc xs := fun wd h => (hxs.below h).more h.size
 have hort := fun W' (hb : Below W.heap.size W W') => orthogonal_any W' A n c os D A' vs.length c' vs L xs.length lc xs (hsl _ hb) (hsv _ hb) (hsx _ hb) hl hok.out HI.out
 rw [hOe] at hort
 clear hOe
 obtain ⟨W1, hW1⟩ : ∃ W1, (W.alloc (.map #[] 0)).alloc (.cells #[.slice none 0 0, .slice none 0 0, .int .i64 D, .slice none 0 0] 31) = W1 := ⟨_, rfl⟩
 have hB1 : Below W.heap.size W W1 := by rw [← hW1]; exact (by repeat (first | assumption | exact Below.refl _ _ | apply below_drewN | apply Below.drew | apply Below.alloc | apply Below.setCell | omega | (focus (simp; done)) | (focus (simp; omega))))
 have bQ : Blk W1 g 31 #[.slice none 0 0, .slice none 0 0, .int .i64 D, .slice none 0 0] := by rw [← hW1]; exact Blk.new' _ _ _ _ (by simp; omega)
 have hM1 : Mp W1 m 0 (.map []) := by
  rw [← hW1, ← hWm]
  exact World.ownsMap.alloc (World.ownsMap_made _ _ _ _) _
 have HW1 := hide (show W.heap.size ≤ W1.heap.size from hB1.size)
 rw [hW1]
 clear hW1
 refine (hort W1 hB1).mono ?_
 rintro e W2 ⟨vO, rfl, hO, hb2⟩
 have hI : QIn W g vO (.slice none 0 0) (.slice none 0 0) O [] [] D W2 :=
  ⟨hO.less HW1.out, bQ.all hb2, Ow.nil _ _, Ow.nil _ _, fun b hb => by simp [Value.ownBlock], fun b hb => by simp [Value.ownBlock], fun b hb => by simp [Value.ownBlock], hB1.trans (hb2.mono HW1.out)⟩
 have hM := hM1.below hb2
 clear hO hb2 hM1 bQ hB1
 rcases hI.orth.form with ⟨_, e⟩ | ⟨bo, capo, rfl, hbo, _, _⟩
 ·rw [e] at h0O; simp at h0O
 have HL0 := hide (show ldL os xs O 0 = [] by simp [ldL])
 have HC0 := hide (show Cov (.map []) (prodL os) (CovK os xs O 0) (fun y => idxF [] (ldr os xs y)) from (Cov.none (f := fun y => idxF [] (ldr os xs y))).imp (fun y _ _ => ⟨fun h => h.elim, fun h => (CovK.zero y h).elim⟩) (fun _ _ _ _ => rfl))
 go_wp2_with fail
 go_loopw [26] (fun i wx => ∃ (k cnt : Nat) (vL vV : Value) (Ls V : List Int) (M : DataW Unit), k ≤ O.length ∧ i = .int .i64 k ∧ Hid (Ls = ldL os xs O k) ∧ Hid (V = Ls.map (Vl vs)) ∧ Hid (Cov M (prodL os) (CovK os xs O k) (fun y => idxF Ls (ldr os xs y))) ∧ cnt ≤ k * 16 ∧ QIn W g (.slice (some ⟨bo, 0, none⟩) O.length capo) vL vV O Ls V D wx ∧ Mp wx m cnt M) (fun i _ => O.length - (intOf i).toNat)
 case atStart => exact ⟨0, 0, _, _, [], [], _, by omega, rfl, hide HL0.out.symm, hide rfl, HC0, by omega, hI, hM⟩
 case round =>
  clear hI hM
  obtain ⟨k, cnt, vL, vV, Ls, V, M, hk, rfl, hLs, hVs, hCov, hcnt, hI, hM⟩ := hrel
  have hLl : Ls.length ≤ k := by rw [hLs.out]; exact ldL_len _ _ _ _
  have hVl : V.length ≤ k := by rw [hVs.out]; simpa using hLl
  by_cases hlt : k < O.length
  ·obtain ⟨x0, x1, -⟩ := (HC.out.memO HOe.out).1 (gi_mem hlt)
   have cO := hI.orth.cell rfl hlt
   have hT := hide (fun h : ldr os xs (gi O k) = gi O k => ldL_t hlt h)
   have hF := hide (fun h : ldr os xs (gi O k) ≠ gi O k => ldL_f hlt h)
   have hMet := HC.out.met HOe.out hlt
   have hcF := fun h => HC.out.covF HOe.out hlt h
   have hcT := fun h => HC.out.covT HOe.out hlt h
   have hnL := HC.out.notL HOe.out hlt
   obtain ⟨x, ex⟩ : ∃ x : Nat, gi O k = (x : Int) := ⟨(gi O k).toNat, by omega⟩
   rw [ex] at x0 x1 cO hT hF hMet hcF hcT hnL
   have hxo := hide (show (x : Int) ∈ O by rw [← ex]; exact gi_mem hlt)
   have hEX := hide ex
   clear ex
   have hcx := (hCov.out x x0 x1).1
   have hkx : i64ok (x : Int) := ⟨by omega, by omega⟩
   by_cases hex : ldr os xs (x : Int) = x
   ·have hhas : Maps.has M (.int .i64 (x : Int)) = false := by
     cases hh : Maps.has M (.int .i64 (x : Int)) with
     | false => rfl
     | true => exact absurd hex (hMet.1 (hcx.1 hh))
    have hTT := hide (hT.out hex)
    have hCT := hide (hcT hex)
    have hEq := hide hex
    have HNL := hide (show (x : Int) ∉ Ls by rw [hLs.out]; exact hnL)
    clear hT hF hMet hcF hcT hcx hnL hex
    go_wp2_with (at_lookup; refine wpList_lookup_own_ok_int _ rfl _ _ 87 rfl 2 2 .i64 law64 Tryz.underlying87 Tryz.underlying2 (zero64 _) m cnt M rfl hM _ _ rfl (key64 hkx) ?_; intro c9 hat hwc; rw [hhas])
    obtain ⟨AL, cL, rfl⟩ := hI.lds.val
    obtain ⟨AV, cV, rfl⟩ := hI.vals.val
    have HCov0 := hide (show Cov M (prodL os) (fun y => CovK os xs O k y ∨ ∃ i, i < 0 ∧ y = Ar os x (gi xs i)) (fun y => idxF (Ls ++ [(x : Int)]) (ldr os xs y)) from hCov.out.imp (fun y _ _ => ⟨.inl, fun h => h.elim id (fun ⟨i, hi, _⟩ => absurd hi (by omega))⟩) (fun y _ _ hy => (idxF_app (by rw [hLs.out]; exact HC.out.idx HOe.out (hy.elim id (fun ⟨i, hi, _⟩ => absurd hi (by omega))))).symm))
    go_loopw [39] (fun i wx => ∃ (j cnt2 : Nat) (M2 : DataW Unit), j ≤ xs.length ∧ i = .int .i64 j ∧ Hid (Cov M2 (prodL os) (fun y => CovK os xs O k y ∨ ∃ i, i < j ∧ y = Ar os x (gi xs i)) (fun y => idxF (Ls ++ [(x : Int)]) (ldr os xs y))) ∧ cnt2 ≤ k * 16 + j ∧ QIn W g (.slice (some ⟨bo, 0, none⟩) O.length capo) (.slice AL Ls.length cL) (.slice AV V.length cV) O Ls V D wx ∧ Mp wx m cnt2 M2) (fun i _ => xs.length - (intOf i).toNat)
    case atStart => exact ⟨0, cnt, M, by omega, rfl, HCov0, by omega, hI, hM⟩
    case round =>
     clear hI hM HCov0 hhas cO
     obtain ⟨j, cnt2, M2, hj, rfl, hC2, hcnt2, hI, hM⟩ := hrel
     have hBI := hI.below
     have hzW := hBI.size
     have hz0 : w.heap.size < wr.heap.size := Nat.lt_of_lt_of_le hszW hzW
     by_cases hlj : j < xs.length
     ·obtain ⟨b, off, rfl, hb, hc⟩ := hxs.at_ (by omega)
      have c1 := (hBI.cell (p := ⟨b, off + j, none⟩) hb).trans (hc j hlj)
      clear hc
      obtain ⟨y0, y1⟩ := HI.out _ (gi_mem hlj)
      have hmem := gi_mem hlj
      have hz := hide (HC.out.coset x0 x1 hmem)
      have hrz := Ar_rng hG x (gi xs j)
      have HZ := hide (show ∀ s, Ar os x (gi xs j) = s → Cov (M2.put (.int .i64 s) (.lit (.int .i64 (Ls.length : Int)))) (prodL os) (fun y => CovK os xs O k y ∨ ∃ i, i < j + 1 ∧ y = Ar os x (gi xs i)) (fun y => idxF (Ls ++ [(x : Int)]) (ldr os xs y)) from fun s hs => by
       have h9 := hC2.out.put (World.ownsMap.isMap hM) (z := s) (v := (Ls.length : Int)) (by rw [← hs, hz.out, hEq.out]; exact idxF_new HNL.out)
       refine h9.imp (fun y _ _ => ?_) (fun _ _ _ _ => rfl)
       constructor
       ·rintro ((h | ⟨i, hi, e⟩) | e)
        ·exact .inl h
        ·exact .inr ⟨i, by omega, e⟩
        ·exact .inr ⟨j, by omega, by rw [e, ← hs]⟩
       ·rintro (h | ⟨i, hi, e⟩)
        ·exact .inl (.inl h)
        ·by_cases hij : i = j
         ·exact .inr (by rw [e, hij, hs])
         ·exact .inl (.inr ⟨i, by omega, e⟩))
      have hpl := fun W' (hb : Below W.heap.size W W') => plus_any W' (.int .i64 D) (.slice A' vs.length c') A n c os x (gi xs j) (hsl _ hb) hG x0 (by omega) y0 (by omega)
      obtain ⟨s, es⟩ : ∃ s, Ar os x (gi xs j) = s := ⟨_, rfl⟩
      rw [es] at hpl hrz
      have HZ2 := hide (HZ.out s es)
      obtain ⟨y, ey⟩ : ∃ y, gi xs j = y := ⟨_, rfl⟩
      rw [ey] at c1 y0 y1 hpl
      clear ey es HZ hmem hz
      have p0 := (hBI.cell (p := ⟨w.heap.size, 0, none⟩) hszW).trans q0
      have p1 := (hBI.cell (p := ⟨w.heap.size, 1, none⟩) hszW).trans q1
      have p2 := (hBI.cell (p := ⟨w.heap.size, 2, none⟩) hszW).trans q2
      have o0 := hI.out.cell 0
      have hgl := hI.out.lt
      have hs64 : i64ok s := ⟨by omega, by omega⟩
      have hl64 : i64ok (Ls.length : Int) := ⟨by omega, by omega⟩
      go_wp2_with fail
      refine wp_region_be [0, 1, 2, 3, 5, 6, 7, 4, 8] 8 wr.heap.size wr (by kernel_rfl) (by kernel_rfl) (by kernel_rfl) (fun _ _ _ _ _ h => h) (Below.refl _ _) (fun wd hBe => ?_)
      repeat (first | (apply ord_tk rfl (by rfl) (by rfl) (by rfl); (focus (intro wx hSw; have r0 := (hSw.cell (p := ⟨w.heap.size, 0, none⟩) hz0).trans p0; have r1 := (hSw.cell (p := ⟨w.heap.size, 1, none⟩) hz0).trans p1; have r2 := (hSw.cell (p := ⟨w.heap.size, 2, none⟩) hz0).trans p2; have r3 := (hSw.cell (p := ⟨g, 0, none⟩) hgl).trans o0; go_simp; (try with_reducible rfl))); (try simp only [Act.put, List.setIfInBounds_toArray, List.set_cons_zero, List.set_cons_succ])) | (apply ord_skip rfl (by rfl) (by rfl) (fun _ => hBe); (try simp only [Act.put, List.setIfInBounds_toArray, List.set_cons_zero, List.set_cons_succ])))
      refine ord_do rfl (by rfl) (by rfl) (fun K hK => ?_)
      go_simp
      refine (hpl _ (hBI.trans (hBe.mono hzW))).mono ?_
      rintro e wd' ⟨rfl, hwd⟩
      replace hBe := hBe.trans (hwd.mono hBe.size)
      clear hwd
      refine hK.out _ _ (fun _ => hBe) ?_
      (try simp only [Act.put, List.setIfInBounds_toArray, List.set_cons_zero, List.set_cons_succ])
      clear hK K
      have hM3 := hM.below hBe
      have hI3 := hI.all hBe
      refine ord_do rfl (by rfl) (by rfl) (fun K hK => ?_)
      refine wp_mapSet _ _ _ _ _ (by rfl) Tryz.underlying87 m cnt2 M2 (by rfl) hM3 (by omega) s (Ls.length : Int) (by rfl) (by rfl) hs64 hl64 ?_
      intro w5 hM5 hg5
      refine hK.out _ _ (fun h => absurd h (by omega)) ?_
      (try simp only [Act.put, List.setIfInBounds_toArray, List.set_cons_zero, List.set_cons_succ])
      clear hK K
      refine ord_nil ?_
      have hI5 := hide (hI3.map hM3 hg5 hmW)
      clear hI hM hI3 hM3 hg5 p0 p1 p2 o0 hBe hBI hpl c1
      go_wp2_with fail
      go_roundw
      case rel => exact ⟨j + 1, cnt2 + 1, _, by omega, by go_num, HZ2, by omega, hI5.out, hM5⟩
      case measure => simp [intOf] <;> omega
     ·obtain rfl : j = xs.length := by omega
      have hCE := hide (show Cov M2 (prodL os) (CovK os xs O (k + 1)) (fun y => idxF (Ls ++ [(x : Int)]) (ldr os xs y)) from hC2.out.imp (fun y h0 h1 => hCT.out y h0 h1) (fun _ _ _ _ => rfl))
      have hxN : x < vs.length := by have := HN.out; omega
      obtain ⟨bv, ov, rfl, hbv, hcv⟩ := hs'.at_ (by omega)
      have cv0 := hcv x hxN
      have hV1 := hide (show V ++ [gi vs x] = (Ls ++ [(x : Int)]).map (Vl vs) by rw [hVs.out]; simp [Vl])
      have hL1 := hide (show Ls ++ [(x : Int)] = ldL os xs O (k + 1) by rw [hTT.out, ← hLs.out])
      obtain ⟨v, ev⟩ : ∃ v, gi vs x = v := ⟨_, rfl⟩
      rw [ev] at cv0 hV1
      clear hcv ev
      have HR := hide (show ∀ wx, Below W.heap.size W wx → wx.cell? ⟨w.heap.size, 2, none⟩ = some (.slice (some ⟨bv, ov, none⟩) vs.length c') ∧ wx.cell? ⟨bv, ov + x, none⟩ = some (.int .i64 v) from fun wx hwx => ⟨(hwx.cell (p := ⟨w.heap.size, 2, none⟩) hszW).trans q2, (hwx.cell (p := ⟨bv, ov + x, none⟩) hbv).trans cv0⟩)
      have hx0 : 0 ≤ (x : Int) := by omega
      have hxN' : (x : Int) < (vs.length : Int) := by omega
      have hH := (hI.hand hM).all ((Below.refl wr.heap.size wr).drew)
      have hvb := hI.lds.lt
      have hvv := hI.vals.lt
      clear hI hM hBI
      go_wp2_with fail
      refine wp_region_otc (.one 0 (.one 1 (.one 2 (.one 5 (.one 6 (.one 7 (.one 8 (.one 9 (.one 10 (.one 11 (.two 3 (.two 4 (.one 14 (.one 12 (.one 13 (.one 15 (.one 16 (.one 17 .nil)))))) 12 (.one 4 (.one 14 (.one 13 (.one 15 (.one 16 (.one 17 .nil))))))) 12 (.one 3 (.one 4 (.one 14 (.one 13 (.one 15 (.one 16 (.one 17 .nil)))))))))))))))))) 15 (fun w' => w'.cell? ⟨g, 0, none⟩ = some (.slice AL Ls.length cL) ∧ w'.cell? ⟨g, 3, none⟩ = some (.slice AV V.length cV) ∧ w'.cell? ⟨w.heap.size, 2, none⟩ = some (.slice (some ⟨bv, ov, none⟩) vs.length c') ∧ w'.cell? ⟨bv, ov + x, none⟩ = some (.int .i64 v)) (by kernel_rfl) (by kernel_rfl) (by kernel_rfl) (fun _ _ _ _ _ h => h) ⟨hH.out.cell 0, hH.out.cell 3, HR.out _ hH.below⟩ ?_
      have hsd : wr.drew.heap.size = wr.heap.size := rfl
      obtain ⟨wd, hwd⟩ : ∃ wd, wr.drew = wd := ⟨_, rfl⟩
      rw [hwd] at hH hsd ⊢
      rw [← hsd] at hvb hvv
      clear hwd hsd
      repeat (apply ot_tk rfl (by rfl) (by rfl) (by rfl); (focus (rintro wx ⟨a1, a2, a3, a4⟩; go_simp; (try with_reducible rfl))); (try simp only [Act.put, List.setIfInBounds_toArray, List.set_cons_zero, List.set_cons_succ]))
      refine ot_two ?_ ?_
      ·skip
       refine ot_do rfl (by rfl) (by rfl) (fun K hK => ?_)
       go_simp
       obtain ⟨wa, HL, hHe, hwa, hBa, hsub, bL, hHB⟩ := be_alloc hH.below 2 #[.int .i64 (x : Int)]
       have hsz := hide (show wa.heap.size = HL + 1 by rw [← hwa, ← hHe]; simp)
       have hHE := hide hHe
       rw [hwa, hHe]
       clear hHe
       (try replace bV := bV.all hsub)
       (try replace bL := bL.all hsub)
       clear hwa hBa hHB
       replace hH := hH.all hsub
       clear hsub
       refine hK.out _ _ (fun _ => ⟨hH.out.cell 0, hH.out.cell 3, HR.out _ hH.below⟩) ?_
       (try simp only [Act.put, List.setIfInBounds_toArray, List.set_cons_zero, List.set_cons_succ])
       clear hK K
       have hLsz := hsz
       have hLE := hHE
       refine ot_two ?_ ?_
       ·skip
        refine ot_do rfl (by rfl) (by rfl) (fun K hK => ?_)
        refine wp_pushN _ _ _ (by rfl) W.heap.size _ Ls (by rfl) hH.lds (x : Int) HL _ HL (by rfl) bL (by omega) hH.below.size hLsz.out ?_
        intro g2 cap2 w5 hP
        (try replace bV := bV.grown hP.2.1 (fun e => by have := hvb _ e; have := hVlo; omega))
        replace hH := hH.pushL (fun b v xs ho hb => by have := ho.lt b hb; have := hLsz.out; omega) hP
        clear hP
        refine hK.out _ _ (fun _ => ⟨hH.out.cell 0, hH.out.cell 3, HR.out _ hH.below⟩) ?_
        (try simp only [Act.put, List.setIfInBounds_toArray, List.set_cons_zero, List.set_cons_succ])
        clear hK K
        repeat (apply ot_tk rfl (by rfl) (by rfl) (by rfl); (focus (rintro wx ⟨a1, a2, a3, a4⟩; go_simp; (try with_reducible rfl))); (try simp only [Act.put, List.setIfInBounds_toArray, List.set_cons_zero, List.set_cons_succ]))
        refine ot_do rfl (by rfl) (by rfl) (fun K hK => ?_)
        go_simp
        obtain ⟨wa, HV, hHe, hwa, hBa, hsub, bV, hHB⟩ := be_alloc hH.below 2 #[.int .i64 v]
        have hsz := hide (show wa.heap.size = HV + 1 by rw [← hwa, ← hHe]; simp)
        have hHE := hide hHe
        rw [hwa, hHe]
        clear hHe
        (try replace bV := bV.all hsub)
        (try replace bL := bL.all hsub)
        clear hwa hBa hHB
        replace hH := hH.all hsub
        clear hsub
        refine hK.out _ _ (fun _ => ⟨hH.out.cell 0, hH.out.cell 3, HR.out _ hH.below⟩) ?_
        (try simp only [Act.put, List.setIfInBounds_toArray, List.set_cons_zero, List.set_cons_succ])
        clear hK K
        refine ot_do rfl (by rfl) (by rfl) (fun K hK => ?_)
        refine wp_pushN _ _ _ (by rfl) W.heap.size _ V (by rfl) hH.vals v HV _ HV (by rfl) bV (by omega) hH.below.size hsz.out ?_
        intro g3 cap3 w5 hP
        replace hH := hH.pushV (fun b v xs ho hb => by have := ho.lt b hb; have := hsz.out; omega) hP
        clear hP
        refine hK.out _ _ (fun _ => ⟨hH.out.cell 0, hH.out.cell 3, HR.out _ hH.below⟩) ?_
        (try simp only [Act.put, List.setIfInBounds_toArray, List.set_cons_zero, List.set_cons_succ])
        clear hK K
        have hst := hH.stores hgW
        have c0 := hH.out.cell 0
        have f0 := hH.out.frozen 0
        have o1 := hH.out.store 0 (.slice (some ⟨g2, 0, none⟩) (Ls.length + 1) cap2)
        have c3 := o1.cell 3
        have f3 := o1.frozen 3
        obtain ⟨w8, hw8⟩ : ∃ w8, (w5.setCell ⟨g, 0, none⟩ (.slice (some ⟨g2, 0, none⟩) (Ls.length + 1) cap2)).setCell ⟨g, 3, none⟩ (.slice (some ⟨g3, 0, none⟩) (V.length + 1) cap3) = w8 := ⟨_, rfl⟩
        rw [hw8] at hst
        have HST := hide hst
        have HW8 := hide hw8
        clear hst hH o1 hw8
        refine ot_do rfl (by rfl) (by rfl) (fun K hK => ?_)
        go_simp
        refine hK.out _ _ (fun h => absurd h (by omega)) ?_
        (try simp only [Act.put, List.setIfInBounds_toArray, List.set_cons_zero, List.set_cons_succ])
        clear hK K
        refine ot_do rfl (by rfl) (by rfl) (fun K hK => ?_)
        go_simp
        refine hK.out _ _ (fun h => absurd h (by omega)) ?_
        (try simp only [Act.put, List.setIfInBounds_toArray, List.set_cons_zero, List.set_cons_succ])
        clear hK K
        refine ot_do rfl (by rfl) (by rfl) (fun K hK => ?_)
        go_simp
        refine hK.out _ _ (fun h => absurd h (by omega)) ?_
        (try simp only [Act.put, List.setIfInBounds_toArray, List.set_cons_zero, List.set_cons_succ])
        clear hK K
        refine ot_nil ?_
        clear c0 f0 c3 f3
        rw [HW8.out]
        go_wp2_with fail
        go_roundw
        case rel => exact ⟨k + 1, cnt2, _, _, _, _, M2, by omega, by go_num, hL1, hV1, hCE, by omega, HST.out.1, HST.out.2⟩
        case measure => simp [intOf] <;> omega
       ·skip
        refine ot_do rfl (by rfl) (by rfl) (fun K hK => ?_)
        go_simp
        obtain ⟨wa, HV, hHe, hwa, hBa, hsub, bV, hHB⟩ := be_alloc hH.below 2 #[.int .i64 v]
        have hsz := hide (show wa.heap.size = HV + 1 by rw [← hwa, ← hHe]; simp)
        have hHE := hide hHe
        rw [hwa, hHe]
        clear hHe
        (try replace bV := bV.all hsub)
        (try replace bL := bL.all hsub)
        clear hwa hBa hHB
        replace hH := hH.all hsub
        clear hsub
        refine hK.out _ _ (fun _ => ⟨hH.out.cell 0, hH.out.cell 3, HR.out _ hH.below⟩) ?_
        (try simp only [Act.put, List.setIfInBounds_toArray, List.set_cons_zero, List.set_cons_succ])
        clear hK K
        have hVlo : wd.heap.size ≤ HV := by have := hLE.out; have := hLsz.out; have := hHE.out; omega
        refine ot_do rfl (by rfl) (by rfl) (fun K hK => ?_)
        refine wp_pushN _ _ _ (by rfl) W.heap.size _ Ls (by rfl) hH.lds (x : Int) HL _ HV (by rfl) bL (by omega) hH.below.size hsz.out ?_
        intro g2 cap2 w5 hP
        (try replace bV := bV.grown hP.2.1 (fun e => by have := hvb _ e; have := hVlo; omega))
        replace hH := hH.pushL (fun b v xs ho hb => by have := ho.lt b hb; have := hsz.out; omega) hP
        clear hP
        refine hK.out _ _ (fun _ => ⟨hH.out.cell 0, hH.out.cell 3, HR.out _ hH.below⟩) ?_
        (try simp only [Act.put, List.setIfInBounds_toArray, List.set_cons_zero, List.set_cons_succ])
        clear hK K
        repeat (apply ot_tk rfl (by rfl) (by rfl) (by rfl); (focus (rintro wx ⟨a1, a2, a3, a4⟩; go_simp; (try with_reducible rfl))); (try simp only [Act.put, List.setIfInBounds_toArray, List.set_cons_zero, List.set_cons_succ]))
        have hw5 : ∃ N, w5.heap.size = N + 1 := ⟨w5.heap.size - 1, by have := bV.lt; omega⟩
        obtain ⟨N5, hN5⟩ := hw5
        have HN5 := hide hN5
        clear hN5
        refine ot_do rfl (by rfl) (by rfl) (fun K hK => ?_)
        refine wp_pushN _ _ _ (by rfl) W.heap.size _ V (by rfl) hH.vals v HV _ N5 (by rfl) bV (by omega) hH.below.size HN5.out ?_
        intro g3 cap3 w5 hP
        replace hH := hH.pushV (fun b v xs ho hb => by have := ho.lt b hb; have := HN5.out; omega) hP
        clear hP
        refine hK.out _ _ (fun _ => ⟨hH.out.cell 0, hH.out.cell 3, HR.out _ hH.below⟩) ?_
        (try simp only [Act.put, List.setIfInBounds_toArray, List.set_cons_zero, List.set_cons_succ])
        clear hK K
        have hst := hH.stores hgW
        have c0 := hH.out.cell 0
        have f0 := hH.out.frozen 0
        have o1 := hH.out.store 0 (.slice (some ⟨g2, 0, none⟩) (Ls.length + 1) cap2)
        have c3 := o1.cell 3
        have f3 := o1.frozen 3
        obtain ⟨w8, hw8⟩ : ∃ w8, (w5.setCell ⟨g, 0, none⟩ (.slice (some ⟨g2, 0, none⟩) (Ls.length + 1) cap2)).setCell ⟨g, 3, none⟩ (.slice (some ⟨g3, 0, none⟩) (V.length + 1) cap3) = w8 := ⟨_, rfl⟩
        rw [hw8] at hst
        have HST := hide hst
        have HW8 := hide hw8
        clear hst hH o1 hw8
        refine ot_do rfl (by rfl) (by rfl) (fun K hK => ?_)
        go_simp
        refine hK.out _ _ (fun h => absurd h (by omega)) ?_
        (try simp only [Act.put, List.setIfInBounds_toArray, List.set_cons_zero, List.set_cons_succ])
        clear hK K
        refine ot_do rfl (by rfl) (by rfl) (fun K hK => ?_)
        go_simp
        refine hK.out _ _ (fun h => absurd h (by omega)) ?_
        (try simp only [Act.put, List.setIfInBounds_toArray, List.set_cons_zero, List.set_cons_succ])
        clear hK K
        refine ot_do rfl (by rfl) (by rfl) (fun K hK => ?_)
        go_simp
        refine hK.out _ _ (fun h => absurd h (by omega)) ?_
        (try simp only [Act.put, List.setIfInBounds_toArray, List.set_cons_zero, List.set_cons_succ])
        clear hK K
        refine ot_nil ?_
        clear c0 f0 c3 f3
        rw [HW8.out]
        go_wp2_with fail
        go_roundw
        case rel => exact ⟨k + 1, cnt2, _, _, _, _, M2, by omega, by go_num, hL1, hV1, hCE, by omega, HST.out.1, HST.out.2⟩
        case measure => simp [intOf] <;> omega
      ·skip
       refine ot_do rfl (by rfl) (by rfl) (fun K hK => ?_)
       go_simp
       obtain ⟨wa, HV, hHe, hwa, hBa, hsub, bV, hHB⟩ := be_alloc hH.below 2 #[.int .i64 v]
       have hsz := hide (show wa.heap.size = HV + 1 by rw [← hwa, ← hHe]; simp)
       have hHE := hide hHe
       rw [hwa, hHe]
       clear hHe
       (try replace bV := bV.all hsub)
       (try replace bL := bL.all hsub)
       clear hwa hBa hHB
       replace hH := hH.all hsub
       clear hsub
       refine hK.out _ _ (fun _ => ⟨hH.out.cell 0, hH.out.cell 3, HR.out _ hH.below⟩) ?_
       (try simp only [Act.put, List.setIfInBounds_toArray, List.set_cons_zero, List.set_cons_succ])
       clear hK K
       have hVE := hHE
       have hVsz := hsz
       refine ot_do rfl (by rfl) (by rfl) (fun K hK => ?_)
       go_simp
       obtain ⟨wa, HL, hHe, hwa, hBa, hsub, bL, hHB⟩ := be_alloc hH.below 2 #[.int .i64 (x : Int)]
       have hsz := hide (show wa.heap.size = HL + 1 by rw [← hwa, ← hHe]; simp)
       have hHE := hide hHe
       rw [hwa, hHe]
       clear hHe
       (try replace bV := bV.all hsub)
       (try replace bL := bL.all hsub)
       clear hwa hBa hHB
       replace hH := hH.all hsub
       clear hsub
       refine hK.out _ _ (fun _ => ⟨hH.out.cell 0, hH.out.cell 3, HR.out _ hH.below⟩) ?_
       (try simp only [Act.put, List.setIfInBounds_toArray, List.set_cons_zero, List.set_cons_succ])
       clear hK K
       have hVlo : wd.heap.size ≤ HV := by have := hVE.out; omega
       refine ot_do rfl (by rfl) (by rfl) (fun K hK => ?_)
       refine wp_pushN _ _ _ (by rfl) W.heap.size _ Ls (by rfl) hH.lds (x : Int) HL _ HL (by rfl) bL (by omega) hH.below.size hsz.out ?_
       intro g2 cap2 w5 hP
       (try replace bV := bV.grown hP.2.1 (fun e => by have := hvb _ e; have := hVlo; omega))
       replace hH := hH.pushL (fun b v xs ho hb => by have := ho.lt b hb; have := hsz.out; omega) hP
       clear hP
       refine hK.out _ _ (fun _ => ⟨hH.out.cell 0, hH.out.cell 3, HR.out _ hH.below⟩) ?_
       (try simp only [Act.put, List.setIfInBounds_toArray, List.set_cons_zero, List.set_cons_succ])
       clear hK K
       repeat (apply ot_tk rfl (by rfl) (by rfl) (by rfl); (focus (rintro wx ⟨a1, a2, a3, a4⟩; go_simp; (try with_reducible rfl))); (try simp only [Act.put, List.setIfInBounds_toArray, List.set_cons_zero, List.set_cons_succ]))
       have hw5 : ∃ N, w5.heap.size = N + 1 := ⟨w5.heap.size - 1, by have := bV.lt; omega⟩
       obtain ⟨N5, hN5⟩ := hw5
       have HN5 := hide hN5
       clear hN5
       refine ot_do rfl (by rfl) (by rfl) (fun K hK => ?_)
       refine wp_pushN _ _ _ (by rfl) W.heap.size _ V (by rfl) hH.vals v HV _ N5 (by rfl) bV (by omega) hH.below.size HN5.out ?_
       intro g3 cap3 w5 hP
       replace hH := hH.pushV (fun b v xs ho hb => by have := ho.lt b hb; have := HN5.out; omega) hP
       clear hP
       refine hK.out _ _ (fun _ => ⟨hH.out.cell 0, hH.out.cell 3, HR.out _ hH.below⟩) ?_
       (try simp only [Act.put, List.setIfInBounds_toArray, List.set_cons_zero, List.set_cons_succ])
       clear hK K
       have hst := hH.stores hgW
       have c0 := hH.out.cell 0
       have f0 := hH.out.frozen 0
       have o1 := hH.out.store 0 (.slice (some ⟨g2, 0, none⟩) (Ls.length + 1) cap2)
       have c3 := o1.cell 3
       have f3 := o1.frozen 3
       obtain ⟨w8, hw8⟩ : ∃ w8, (w5.setCell ⟨g, 0, none⟩ (.slice (some ⟨g2, 0, none⟩) (Ls.length + 1) cap2)).setCell ⟨g, 3, none⟩ (.slice (some ⟨g3, 0, none⟩) (V.length + 1) cap3) = w8 := ⟨_, rfl⟩
       rw [hw8] at hst
       have HST := hide hst
       have HW8 := hide hw8
       clear hst hH o1 hw8
       refine ot_do rfl (by rfl) (by rfl) (fun K hK => ?_)
       go_simp
       refine hK.out _ _ (fun h => absurd h (by omega)) ?_
       (try simp only [Act.put, List.setIfInBounds_toArray, List.set_cons_zero, List.set_cons_succ])
       clear hK K
       refine ot_do rfl (by rfl) (by rfl) (fun K hK => ?_)
       go_simp
       refine hK.out _ _ (fun h => absurd h (by omega)) ?_
       (try simp only [Act.put, List.setIfInBounds_toArray, List.set_cons_zero, List.set_cons_succ])
       clear hK K
       refine ot_do rfl (by rfl) (by rfl) (fun K hK => ?_)
       go_simp
       refine hK.out _ _ (fun h => absurd h (by omega)) ?_
       (try simp only [Act.put, List.setIfInBounds_toArray, List.set_cons_zero, List.set_cons_succ])
       clear hK K
       refine ot_nil ?_
       clear c0 f0 c3 f3
       rw [HW8.out]
       go_wp2_with fail
       go_roundw
       case rel => exact ⟨k + 1, cnt2, _, _, _, _, M2, by omega, by go_num, hL1, hV1, hCE, by omega, HST.out.1, HST.out.2⟩
       case measure => simp [intOf] <;> omega
   ·have hhas : Maps.has M (.int .i64 (x : Int)) = true := hcx.2 (hMet.2 hex)
    have hFF := hide (show Ls = ldL os xs O (k + 1) by rw [hF.out hex]; exact hLs.out)
    have hCF := hide (show Cov M (prodL os) (CovK os xs O (k + 1)) (fun y => idxF Ls (ldr os xs y)) from hCov.out.imp (fun y _ _ => hcF hex y) (fun _ _ _ _ => rfl))
    clear hT hF hMet hcF hcT hcx hex
    go_wp2_with (at_lookup; refine wpList_lookup_own_ok_int _ rfl _ _ 87 rfl 2 2 .i64 law64 Tryz.underlying87 Tryz.underlying2 (zero64 _) m cnt M rfl hM _ _ rfl (key64 hkx) ?_; intro c9 hat hwc; rw [hhas])
    go_roundw
    case rel => exact ⟨k + 1, cnt, vL, vV, Ls, V, M, by omega, by go_num, hFF, hVs, hCF, by omega, hI, hM⟩
    case measure => simp [intOf] <;> omega
  ·obtain rfl : k = O.length := by omega
   obtain ⟨W2, rfl⟩ : ∃ W2, W2 = wr := ⟨_, rfl⟩
   have hLr := fun x hx => HC.out.lrng HOe.out (k := O.length) x hx
   have HQ2 := HQ.out
   rw [← hLs.out] at hLr HQ2
   have HLr := hide hLr
   have HQ2 := hide HQ2
   have HAT := hide (show ∀ x ∈ Ls, ∀ y ∈ Ls, ∀ c, M.atKey (.int .i64 (Ar os x y)) (.lit (.int .i64 0)) = .lit (.int .i64 c) → idxF Ls (ldr os xs (Ar os x y)) = c from fun x hx y hy c hc => by
    have hm := HC.out.addO HOe.out (hLr x hx).1 (hLr y hy).1
    have hr := Ar_rng hG x y
    have h9 := (hCov.out _ hr.1 hr.2).2 (HC.out.covEnd HOe.out hm)
    rw [h9] at hc
    simpa using hc)
   have hne := owne hI.lds hI.out (by decide)
   have hneV := owne hI.vals hI.out (by decide)
   have hmg := hM.ne hI.out
   have hQ0 : QTb W2 g vL vV D (.slice none 0 0) [] W2 := ⟨hI.out, Grow.nil _, Wr.refl _ _, hI.out.lt⟩
   obtain ⟨AL, cL, rfl⟩ := hI.lds.val
   obtain ⟨AV, cV, rfl⟩ := hI.vals.val
   have HI2 := hide hI
   have HM2 := hide hM
   have hWW2 := hI.below.size
   clear hI hLr hM
   have hL16 : Ls.length ≤ 16 := by omega
   have o0 := hQ0.out.cell 0
   go_wp2_with fail
   clear o0
   go_loopw [72] (fun i wx => ∃ (k : Nat) (vT : Value) (T : List (List Int)), k ≤ Ls.length ∧ i = .int .i64 k ∧ Hid (T = (ctab os xs Ls).take k) ∧ QTb W2 g (.slice AL Ls.length cL) (.slice AV V.length cV) D vT T wx) (fun i _ => Ls.length - (intOf i).toNat)
   case atStart => exact ⟨0, _, [], by omega, rfl, hide (by simp), hQ0⟩
   case round =>
    clear hQ0
    obtain ⟨k, vT, T, hk, rfl, hTk, hQ⟩ := hrel
    obtain ⟨w3, rfl⟩ : ∃ w3, w3 = wr := ⟨_, rfl⟩
    have hB3 : Below W.heap.size W w3 := HI2.out.below.trans (hQ.kept.below (fun b hb => by omega) hWW2)
    have hW3 := hQ.kept.size
    have g0 := hQ.out.cell 0
    have hgl := hQ.out.lt
    have hOL : Ow w3 W.heap.size (.slice AL Ls.length cL) Ls := hQ.kept.own HI2.out.lds (fun b e hb => hne (by rw [e, hb]))
    have hM3 : Mp w3 m cnt M := by
     have hlt := HM2.out.lt
     obtain ⟨es, clock, h1, r⟩ := HM2.out
     exact ⟨es, clock, (hQ.kept.block m hlt hmg).trans h1, r⟩
    by_cases hlk : k < Ls.length
    ·obtain ⟨hxO, hx0, hx1⟩ := HLr.out _ (gi_mem hlk)
     have hATk := fun y hy => HAT.out _ (gi_mem hlk) y hy
     obtain ⟨x, ex⟩ : ∃ x, gi Ls k = x := ⟨_, rfl⟩
     rw [ex] at hxO hx0 hx1 hATk
     have HATk := hide hATk
     clear hATk
     have hsL := (hOL.sl (fun v hv => by have := HLr.out v hv; exact ⟨by omega, by omega⟩))
     obtain ⟨_, _, e9, sL⟩ := hsL
     injection e9 with e91 _ e92
     subst e91
     subst e92
     obtain ⟨bl, ol, rfl, hbl, hcl⟩ := sL.at_ (by omega)
     have cx := hcl k hlk
     rw [ex] at cx
     have HCL := hide hcl
     clear hcl
     obtain ⟨row, hrow⟩ : ∃ row, Ls.map (fun y => idxF Ls (ldr os xs (Ar os x y))) = row := ⟨_, rfl⟩
     have hrl : row.length = Ls.length := by rw [← hrow]; simp
     have hTk1 := hide (show T ++ [row] = (ctab os xs Ls).take (k + 1) by
      have hgk : (ctab os xs Ls)[k]? = some row := by unfold ctab; rw [List.getElem?_map, gi_get hlk, ex, ← hrow]; rfl
      rw [hTk.out, List.take_add_one, hgk]; rfl)
     have hrj := hide (show ∀ j, j < Ls.length → row.take (j + 1) = row.take j ++ [idxF Ls (ldr os xs (Ar os x (gi Ls j)))] from fun j hj => by
      have hgj : row[j]? = some (idxF Ls (ldr os xs (Ar os x (gi Ls j)))) := by rw [← hrow, List.getElem?_map, gi_get hj]; rfl
      rw [List.take_add_one, hgj]; rfl)
     have hrR := hide (show ∀ v ∈ row, i64ok v by
      rw [← hrow]
      intro v hv
      obtain ⟨y, _, rfl⟩ := List.mem_map.1 hv
      have := idxF_lt Ls (ldr os xs (Ar os x y))
      exact ⟨by omega, by omega⟩)
     have hTl : T.length ≤ k := by rw [hTk.out]; simp; omega
     have hrl' := hide hrl
     clear hrow hrl ex
     have hOz : Ow (w3.alloc (.cells #[] 2)) w3.heap.size (.slice (some ⟨w3.heap.size, 0, none⟩) 0 0) (row.take 0) := Ow.made' (xs := []) w3 #[] w3.heap.size 0 rfl rfl (Nat.le_refl _) rfl (by unfold maxLen; omega)
     have hBz : Below w3.heap.size w3 (w3.alloc (.cells #[] 2)) := (Below.refl _ _).alloc (Nat.le_refl _) _
     go_wp2_with fail
     go_loopw [15, 80] (fun r i wx => ∃ (j : Nat) (vr : Value), j ≤ Ls.length ∧ vr = r ∧ i = .int .i64 j ∧ Ow wx w3.heap.size vr (row.take j) ∧ Below w3.heap.size w3 wx) (fun _ i _ => Ls.length - (intOf i).toNat)
     case atStart => exact ⟨0, _, by omega, rfl, rfl, hOz, hBz⟩
     case round =>
      clear hOz hBz
      obtain ⟨j, vr, hj, rfl, rfl, hO, hBe⟩ := hrel
      have h3s := hBe.size
      by_cases hlj : j < Ls.length
      ·have cy := (hBe.cell (p := ⟨bl, ol + j, none⟩) hbl).trans (HCL.out j hlj)
       obtain ⟨hyO, hy0, hy1⟩ := HLr.out _ (gi_mem hlj)
       have hAT := HATk.out _ (gi_mem hlj)
       have hrj1 := hide (hrj.out j hlj)
       have hjl : (row.take j).length = j := by rw [List.length_take, hrl'.out]; omega
       obtain ⟨y, ey⟩ : ∃ y, gi Ls j = y := ⟨_, rfl⟩
       rw [ey] at cy hy0 hy1 hrj1 hAT
       clear ey
       have hpl := plus_any wr (.int .i64 D) (.slice A' vs.length c') A n c os x y (hsl _ (hB3.trans (hBe.mono hB3.size))) hG hx0 (by omega) hy0 (by omega)
       have hs9 := Ar_rng hG x y
       obtain ⟨s, es⟩ : ∃ s, Ar os x y = s := ⟨_, rfl⟩
       rw [es] at hpl hs9 hrj1 hAT
       clear es
       obtain ⟨v, ev⟩ : ∃ v, idxF Ls (ldr os xs s) = v := ⟨_, rfl⟩
       rw [ev] at hrj1 hAT
       have HV9 := hide hAT
       clear ev hAT
       have hBW3 := hB3.trans (hBe.mono hB3.size)
       have p0 := (hBW3.cell (p := ⟨w.heap.size, 0, none⟩) hszW).trans q0
       have p1 := (hBW3.cell (p := ⟨w.heap.size, 1, none⟩) hszW).trans q1
       have p2 := (hBW3.cell (p := ⟨w.heap.size, 2, none⟩) hszW).trans q2
       have hs64 : i64ok s := ⟨by omega, by omega⟩
       clear hBW3
       go_wp2_with fail
       clear p0 p1 p2 cy
       refine hpl.mono ?_
       rintro e w4 ⟨rfl, hb4⟩
       have hO4 := hO.below hb4
       have hBe4 := hBe.trans (hb4.mono hBe.size)
       have hM4 := hM3.below hBe4
       have h4s := hBe4.size
       clear hO hBe hb4 hpl
       go_wp2_with (first
        | (at_lookup; refine wpList_lookup_own_int _ rfl _ _ 87 rfl 2 2 .i64 law64 Tryz.underlying87 Tryz.underlying2 (zero64 _) m cnt M rfl hM4 _ _ rfl (key64 hs64) ?_; intro c9 hat hwc; obtain rfl := HV9.out _ hat)
        | (at_builtin; refine list_push _ rfl _ _ rfl w3.heap.size _ _ rfl (hO4.alloc _) v w4.heap.size _ rfl (Blk.new _ _ _) (by omega) (by simp; omega) (by simp) ?_; intro g5 cap5 w5 hP)
        | go_in)
       have hB5 := (hBe4.alloc hBe4.size _).trans (hP.below (hO4.alloc _) (by simp; omega))
       have hO5 := hP.own
       rw [← hrj1.out, hjl] at hO5
       clear hP hO4 hBe4
       go_roundw
       case rel => exact ⟨j + 1, _, by omega, rfl, by go_num, hO5, hB5⟩
       case measure => simp [intOf] <;> omega
      ·obtain rfl : j = Ls.length := by omega
       have hO9 := hO
       rw [List.take_of_length_le (by rw [hrl'.out]; exact Nat.le_refl _)] at hO9
       clear hO
       obtain ⟨Ar', cr, rfl⟩ := hO9.val
       have hRow := E1.of_ow hO9 hrR.out
       rw [hrl'.out] at hRow
       obtain ⟨w6, rfl⟩ : ∃ w6, w6 = wr := ⟨_, rfl⟩
       have hbw : Below w6.heap.size w6 (w6.alloc (.cells #[.slice Ar' Ls.length cr] 24)) := (Below.refl _ _).alloc (Nat.le_refl _) _
       have hRow6 := E1.below hRow hbw
       have h31 := (hBe.cell (p := ⟨g, 1, none⟩) hgl).trans (hQ.out.cell 1)
       have f31 := (hBe.frozen (p := ⟨g, 1, none⟩) hgl).trans (hQ.out.frozen 1)
       have hB39 := hBe.trans (hbw.mono hBe.size)
       have hgW2 := hQ.lt
       have hg6 : g < w6.heap.size := Nat.lt_of_lt_of_le hgl hBe.size
       obtain ⟨At, ct, rfl⟩ := hQ.tab.val
       have hQ6 := hide (hQ.bel hB39)
       have hGr := hQ.tab
       clear hQ hRow hO9
       rw [hrl'.out]
       go_wp2_with (at_builtin; refine list_pushG kp1 29 24 _ 24 Tryz.underlying29 rows_info (by omega) rfl _ rfl _ _ rfl W2.heap.size (.slice At T.length ct) T rfl w3 hGr hB39 (.slice Ar' Ls.length cr) row _ hRow6 (fun b hb => ⟨hb.1, by have := hb.2; simp; omega⟩) rfl w6.heap.size _ rfl (Blk.new _ _ _) (by omega) hW3 (by simp) ?_; intro g' cap' w7 hG7 hB7 hW7 hg7 hg8; have t2 := (hB7.cell (p := ⟨g, 1, none⟩) hgW2).trans ((hbw.cell (p := ⟨g, 1, none⟩) hg6).trans h31); have t3 := (hB7.frozen (p := ⟨g, 1, none⟩) hgW2).trans ((hbw.frozen (p := ⟨g, 1, none⟩) hg6).trans f31))
       have hN := hQ6.out.next hB7 hG7
       go_roundw
       case rel => exact ⟨k + 1, _, _, by omega, by go_num, hTk1, hN⟩
       case measure => simp [intOf] <;> omega
    ·obtain rfl : k = Ls.length := by omega
     have hTe : T = ctab os xs Ls := by rw [hTk.out, List.take_of_length_le]; unfold ctab; simp
     obtain ⟨At, ct, rfl⟩ := hQ.tab.val
     have bR3 : Blk w3 (w.heap.size + 1) 31 #[.slice none 0 0, .slice none 0 0, .int .i64 0, .slice none 0 0] := hQ.kept.blk (bR.all HI2.out.below) (by have := hsW.out; omega)
     have x0 := hQ.out.cell 0
     have x1 := hQ.out.cell 1
     have x2 := hQ.out.cell 2
     have x3 := hQ.out.cell 3
     have z0 := bR3.frozen 0
     have z1 := bR3.frozen 1
     have z2 := bR3.frozen 2
     have z3 := bR3.frozen 3
     have y0 := bR3.cell 0
     have y1 := bR3.cell 1
     have y2 := bR3.cell 2
     have y3 := bR3.cell 3
     have hb4 := put4_blk (x := .slice AL Ls.length cL) (y := .slice At T.length ct) (z := .int .i64 D) (u := .slice AV V.length cV) bR3
     have p0 := hb4.cell 0
     have p1 := hb4.cell 1
     have p2 := hb4.cell 2
     have p3 := hb4.cell 3
     unfold put4 put3 at p0 p1 p2 p3
     have hVr := hide (show ∀ v ∈ V, i64ok v by
      rw [hVs.out]
      intro v hv
      obtain ⟨y, hy, rfl⟩ := List.mem_map.1 hv
      have h1 := HLr.out y hy
      have := hok.out.vl (k := y.toNat) (by omega)
      have := hok.out.d2
      unfold Vl
      exact ⟨by omega, by omega⟩)
     have hLo := hide (show ∀ v ∈ Ls, i64ok v from fun v hv => by have := HLr.out v hv; exact ⟨by omega, by omega⟩)
     have hfin := hide (hQ.fin (r := w.heap.size + 1) (B := W.heap.size) (hbW.trans (HI2.out.below.mono (Nat.le_of_lt hszW))) (by omega) (by have := hsW.out; omega) hWW2 (Nat.le_of_lt hszW) (by omega) HI2.out.lds HI2.out.vals HI2.out.aL hLo.out hVr.out hne hneV)
     have HTE := hide hTe
     clear hTe hQ bR3 hb4 hM3
     go_wp2_with fail
     refine bodyPost_ret (v := .agg #[.slice AL Ls.length cL, .slice At T.length ct, .int .i64 D, .slice AV V.length cV]) (by simp [results, Tryz.results48, go_sem, p0, p1, p2, p3]) rfl ?_
     have h9 := hfin.out
     rw [HQ2.out, ← HTE.out, ← hVs.out]
     exact h9
theorem codeI_t {os vs xs : List Int} {D : Int} (h : codeS os D vs xs = 0) (hb : isoB vs xs = true) : codeI os D vs xs = 0 := by unfold codeI; rw [if_pos h, if_pos hb]
theorem codeI_f {os vs xs : List Int} {D : Int} (h : codeS os D vs xs = 0) (hb : isoB vs xs = false) : codeI os D vs xs = 5 := by unfold codeI; rw [if_pos h, hb]; rfl
theorem codeI_n {os vs xs : List Int} {D : Int} (h : codeS os D vs xs ≠ 0) : codeI os D vs xs = codeS os D vs xs := by unfold codeI; rw [if_neg h]
noncomputable def cqR (os : List Int) (D : Int) (vs xs : List Int) : quotient_T := if codeI os D vs xs = 0 then condQ os D vs xs else ([], [], 0, [])
theorem quotient_mono {w : World} {v : Value} {x : quotient_T} {fp fq : Nat → Prop} (h : quotient_E w v x fp) (hf : ∀ b, fp b → fq b) (hb : ∀ b, fq b → b < w.heap.size) : quotient_E w v x fq := by
 obtain ⟨u1, u2, u3, F1, F2, F3, e, h1, h2, h3, a1, a2, a3, s1, s2, s3, _⟩ := h
 exact ⟨u1, u2, u3, F1, F2, F3, e, h1, h2, h3, a1, a2, a3, fun b h => hf b (s1 b h), fun b h => hf b (s2 b h), fun b h => hf b (s3 b h), hb⟩
set_option maxHeartbeats 2000000 in
theorem impl_Cond_any (w : World) (A : Option Addr) (n c : Nat) (os : List Int) (D : Int) (A' : Option Addr) (n' c' : Nat) (vs : List Int) (L : Option Addr) (l lc : Nat) (xs : List Int)
  (h : Sl w w.heap.size A n c os) (h' : Sl w w.heap.size A' n' c' vs) (hx : Sl w w.heap.size L l lc xs) (hn : n ≤ 1048576) (hn' : n' ≤ 1048576) (hl : l ≤ 1048576) :
  Calls Tryz.prog 8 #[.agg #[.slice A n c, .int .i64 D, .slice A' n' c'], .slice L l lc] w (MkEC quotient_E w (cqR os D vs xs) (codeI os D vs xs)) := by
 obtain rfl := h'.len
 obtain rfl := hx.len
 have hcode := fun W A n c A' n' c' LL l lc => subgroupCode_any W A n c os D A' n' c' vs LL l lc xs
 obtain ⟨k, hk⟩ : ∃ k, codeS os D vs xs = k := ⟨_, rfl⟩
 rw [hk] at hcode
 by_cases hk0 : k = 0
 ·subst hk0
  obtain ⟨hM, hI, -⟩ := codeS_0 hk
  have hG := hM.ok.g
  have HM := hide hI.mem
  have HMv := hide (show ∀ x ∈ xs, 0 ≤ x ∧ x < (vs.length : Int) by rw [hM.ok.len]; exact hI.mem)
  cases hb : isoB vs xs with
  | true =>
   have hC := hide (codeI_t hk hb)
   have hCs := hide (Cs.of hk hb)
   have hV := hide (show cqR os D vs xs = condQ os D vs xs by unfold cqR; rw [hC.out, if_pos rfl])
   clear hk
   go_enter Tryz.func8, Tryz.ntmps8
   go_wp2_with fail
   obtain ⟨W, hW⟩ : ∃ W, (w.alloc (.cells #[.slice A n c, .int .i64 D, .slice A' vs.length c'] 26)).alloc (.cells #[.slice none 0 0, .slice none 0 0, .int .i64 0, .slice none 0 0] 31) = W := ⟨_, rfl⟩
   have hbW : Below w.heap.size w W := by rw [← hW]; exact (by repeat (first | assumption | exact Below.refl _ _ | apply below_drewN | apply Below.drew | apply Below.alloc | apply Below.setCell | omega | (focus (simp; done)) | (focus (simp; omega))))
   have hszW : w.heap.size < W.heap.size := by rw [← hW]; simp; omega
   have bM : Blk W w.heap.size 26 #[.slice A n c, .int .i64 D, .slice A' vs.length c'] := by rw [← hW]; exact (Blk.new _ _ _).alloc _
   have bR : Blk W (w.heap.size + 1) 31 #[.slice none 0 0, .slice none 0 0, .int .i64 0, .slice none 0 0] := by rw [← hW]; exact Blk.new' _ _ _ _ (by simp)
   have q0 := bM.cell 0
   have q1 := bM.cell 1
   have q2 := bM.cell 2
   rw [hW]
   clear hW
   have hs := (h.below hbW).more (Nat.le_of_lt hszW)
   have hs' := (h'.below hbW).more (Nat.le_of_lt hszW)
   have hxs := (hx.below hbW).more (Nat.le_of_lt hszW)
   refine (hcode _ _ _ _ _ _ _ _ _ _ hs hs' hxs hn hn' hl).mono ?_
   rintro e w2 ⟨rfl, hb2⟩
   have r0 := (hb2.cell (p := ⟨w.heap.size, 0, none⟩) hszW).trans q0
   have r1 := (hb2.cell (p := ⟨w.heap.size, 1, none⟩) hszW).trans q1
   have r2 := (hb2.cell (p := ⟨w.heap.size, 2, none⟩) hszW).trans q2
   have hs2 := (hs.below hb2).more hb2.size
   have hs2' := (hs'.below hb2).more hb2.size
   have hxs2 := (hxs.below hb2).more hb2.size
   go_wp2_with fail
   clear r0 r1 r2
   refine (isIsotropic_any _ _ _ _ os _ _ _ _ _ _ _ _ _ hs2' hxs2 hn' hl HMv.out).mono ?_
   rw [hb]
   rintro e w4 ⟨rfl, hb4⟩
   clear hb
   replace hb2 := hb2.trans (hb4.mono hb2.size)
   have bR2 := bR.all hb2
   have r0 := (hb2.cell (p := ⟨w.heap.size, 0, none⟩) hszW).trans q0
   have r1 := (hb2.cell (p := ⟨w.heap.size, 1, none⟩) hszW).trans q1
   have r2 := (hb2.cell (p := ⟨w.heap.size, 2, none⟩) hszW).trans q2
   go_wp2_with fail
   clear r0 r1 r2
   refine (condense_any _ _ _ _ os _ _ _ _ vs _ _ _ xs ((hs.below hb2).more hb2.size) ((hs'.below hb2).more hb2.size) ((hxs.below hb2).more hb2.size) hl hCs.out).mono ?_
   rintro e w3 ⟨u, rfl, hE, hb3⟩
   obtain ⟨A1, n1, c1, F1, p1, f1, z1, D1, m1, e1, rfl, hf⟩ := quotient_form (quotient_rd hE)
   clear hf
   have hzz := bR2.lt
   have bR3 := bR2.all hb3
   have fz0 := bR3.frozen 0
   have fz1 := bR3.frozen 1
   have fz2 := bR3.frozen 2
   have fz3 := bR3.frozen 3
   have cy0 := bR3.cell 0
   have cy1 := bR3.cell 1
   have cy2 := bR3.cell 2
   have cy3 := bR3.cell 3
   have hbt := hbW.trans ((hb2.trans (hb3.mono hb2.size)).mono (Nat.le_of_lt hszW))
   have hb4 := put4_blk (x := .slice A1 n1 c1) (y := .slice F1 p1 f1) (z := .int .i64 z1) (u := .slice D1 m1 e1) bR3
   have p0 := hb4.cell 0
   have p1' := hb4.cell 1
   have p2 := hb4.cell 2
   have p3 := hb4.cell 3
   have hwr : Wr w3 (put4 w3 (w.heap.size + 1) (.slice A1 n1 c1) (.slice F1 p1 f1) (.int .i64 z1) (.slice D1 m1 e1)) (fun b => b = w.heap.size + 1) := put4_wr
   have hfin := hide (And.intro (quotient_wr hE hwr (fun b hb e => by have := hb.1; omega)) (put4_below (x := .slice A1 n1 c1) (y := .slice F1 p1 f1) (z := .int .i64 z1) (u := .slice D1 m1 e1) hbt (show w.heap.size ≤ w.heap.size + 1 by omega)))
   have hszp : (put4 w3 (w.heap.size + 1) (.slice A1 n1 c1) (.slice F1 p1 f1) (.int .i64 z1) (.slice D1 m1 e1)).heap.size = w3.heap.size := put4_size
   have hszp' := hide hszp
   have hsp := hwr.size
   have hspc := hide hsp
   unfold put4 put3 at p0 p1' p2 p3 hfin hszp'
   clear hb4 hE hwr hszp hsp
   go_wp2_with fail
   refine bodyPost_ret (v := .tuple #[.agg #[.slice A1 n1 c1, .slice F1 p1 f1, .int .i64 z1, .slice D1 m1 e1], .int .i64 0]) (by simp [results, Tryz.results8, go_sem, p0, p1', p2, p3]) rfl ?_
   exact ⟨_, by rw [hC.out], by rw [hV.out]; exact quotient_mono hfin.out.1 (fun b hb => ⟨by have := hb.1; omega, by rw [hszp'.out]; exact hb.2⟩) (fun b hb => hb.2), hfin.out.2⟩
  | false =>
   have hC := hide (codeI_f hk hb)
   have hV := hide (show cqR os D vs xs = ([], [], 0, []) by unfold cqR; rw [hC.out, if_neg (by omega)])
   clear hk
   go_enter Tryz.func8, Tryz.ntmps8
   go_wp2_with fail
   obtain ⟨W, hW⟩ : ∃ W, (w.alloc (.cells #[.slice A n c, .int .i64 D, .slice A' vs.length c'] 26)).alloc (.cells #[.slice none 0 0, .slice none 0 0, .int .i64 0, .slice none 0 0] 31) = W := ⟨_, rfl⟩
   have hbW : Below w.heap.size w W := by rw [← hW]; exact (by repeat (first | assumption | exact Below.refl _ _ | apply below_drewN | apply Below.drew | apply Below.alloc | apply Below.setCell | omega | (focus (simp; done)) | (focus (simp; omega))))
   have hszW : w.heap.size < W.heap.size := by rw [← hW]; simp; omega
   have bM : Blk W w.heap.size 26 #[.slice A n c, .int .i64 D, .slice A' vs.length c'] := by rw [← hW]; exact (Blk.new _ _ _).alloc _
   have bR : Blk W (w.heap.size + 1) 31 #[.slice none 0 0, .slice none 0 0, .int .i64 0, .slice none 0 0] := by rw [← hW]; exact Blk.new' _ _ _ _ (by simp)
   have q0 := bM.cell 0
   have q1 := bM.cell 1
   have q2 := bM.cell 2
   rw [hW]
   clear hW
   have hs := (h.below hbW).more (Nat.le_of_lt hszW)
   have hs' := (h'.below hbW).more (Nat.le_of_lt hszW)
   have hxs := (hx.below hbW).more (Nat.le_of_lt hszW)
   refine (hcode _ _ _ _ _ _ _ _ _ _ hs hs' hxs hn hn' hl).mono ?_
   rintro e w2 ⟨rfl, hb2⟩
   have r0 := (hb2.cell (p := ⟨w.heap.size, 0, none⟩) hszW).trans q0
   have r1 := (hb2.cell (p := ⟨w.heap.size, 1, none⟩) hszW).trans q1
   have r2 := (hb2.cell (p := ⟨w.heap.size, 2, none⟩) hszW).trans q2
   have hs2 := (hs.below hb2).more hb2.size
   have hs2' := (hs'.below hb2).more hb2.size
   have hxs2 := (hxs.below hb2).more hb2.size
   go_wp2_with fail
   clear r0 r1 r2
   refine (isIsotropic_any _ _ _ _ os _ _ _ _ _ _ _ _ _ hs2' hxs2 hn' hl HMv.out).mono ?_
   rw [hb]
   rintro e w4 ⟨rfl, hb4⟩
   clear hb
   replace hb2 := hb2.trans (hb4.mono hb2.size)
   have bR2 := bR.all hb2
   have hbel := hbW.trans (hb2.mono (Nat.le_of_lt hszW))
   have fz0 := bR2.frozen 0
   have fz1 := bR2.frozen 1
   have fz2 := bR2.frozen 2
   have fz3 := bR2.frozen 3
   have cy0 := bR2.cell 0
   have cy1 := bR2.cell 1
   have cy2 := bR2.cell 2
   have cy3 := bR2.cell 3
   have hb4 := put4_blk (x := .slice none 0 0) (y := .slice none 0 0) (z := .int .i64 0) (u := .slice none 0 0) bR2
   have p0 := hb4.cell 0
   have p1 := hb4.cell 1
   have p2 := hb4.cell 2
   have p3 := hb4.cell 3
   have hbz := hide (put4_below (x := .slice none 0 0) (y := .slice none 0 0) (z := .int .i64 0) (u := .slice none 0 0) hbel (show w.heap.size ≤ w.heap.size + 1 by omega))
   unfold put4 put3 at p0 p1 p2 p3 hbz
   clear hb4
   go_wp2_with fail
   refine bodyPost_ret (v := .tuple #[.agg #[.slice none 0 0, .slice none 0 0, .int .i64 0, .slice none 0 0], .int .i64 5]) (by simp [results, Tryz.results8, go_sem, p0, p1, p2, p3]) rfl ?_
   exact ⟨_, by rw [hC.out], by rw [hV.out]; exact quotient_none _ _ (fun b hb => hb.2) 0, hbz.out⟩
 ·have hC := hide (show codeI os D vs xs = k by rw [codeI_n (by rw [hk]; exact hk0), hk])
  have hV := hide (show cqR os D vs xs = ([], [], 0, []) by unfold cqR; rw [hC.out, if_neg hk0])
  have hkb' : (k != 0) = true := by simpa using hk0
  clear hk
  go_enter Tryz.func8, Tryz.ntmps8
  go_wp2_with fail
  obtain ⟨W, hW⟩ : ∃ W, (w.alloc (.cells #[.slice A n c, .int .i64 D, .slice A' vs.length c'] 26)).alloc (.cells #[.slice none 0 0, .slice none 0 0, .int .i64 0, .slice none 0 0] 31) = W := ⟨_, rfl⟩
  have hbW : Below w.heap.size w W := by rw [← hW]; exact (by repeat (first | assumption | exact Below.refl _ _ | apply below_drewN | apply Below.drew | apply Below.alloc | apply Below.setCell | omega | (focus (simp; done)) | (focus (simp; omega))))
  have hszW : w.heap.size < W.heap.size := by rw [← hW]; simp; omega
  have bM : Blk W w.heap.size 26 #[.slice A n c, .int .i64 D, .slice A' vs.length c'] := by rw [← hW]; exact (Blk.new _ _ _).alloc _
  have bR : Blk W (w.heap.size + 1) 31 #[.slice none 0 0, .slice none 0 0, .int .i64 0, .slice none 0 0] := by rw [← hW]; exact Blk.new' _ _ _ _ (by simp)
  have q0 := bM.cell 0
  have q1 := bM.cell 1
  have q2 := bM.cell 2
  rw [hW]
  clear hW
  have hs := (h.below hbW).more (Nat.le_of_lt hszW)
  have hs' := (h'.below hbW).more (Nat.le_of_lt hszW)
  have hxs := (hx.below hbW).more (Nat.le_of_lt hszW)
  refine (hcode _ _ _ _ _ _ _ _ _ _ hs hs' hxs hn hn' hl).mono ?_
  rintro e w2 ⟨rfl, hb2⟩
  have r0 := (hb2.cell (p := ⟨w.heap.size, 0, none⟩) hszW).trans q0
  have r1 := (hb2.cell (p := ⟨w.heap.size, 1, none⟩) hszW).trans q1
  have r2 := (hb2.cell (p := ⟨w.heap.size, 2, none⟩) hszW).trans q2
  have hs2 := (hs.below hb2).more hb2.size
  have hs2' := (hs'.below hb2).more hb2.size
  have hxs2 := (hxs.below hb2).more hb2.size
  have bR2 := bR.all hb2
  have hbel := hbW.trans (hb2.mono (Nat.le_of_lt hszW))
  have fz0 := bR2.frozen 0
  have fz1 := bR2.frozen 1
  have fz2 := bR2.frozen 2
  have fz3 := bR2.frozen 3
  have cy0 := bR2.cell 0
  have cy1 := bR2.cell 1
  have cy2 := bR2.cell 2
  have cy3 := bR2.cell 3
  have hb4 := put4_blk (x := .slice none 0 0) (y := .slice none 0 0) (z := .int .i64 0) (u := .slice none 0 0) bR2
  have p0 := hb4.cell 0
  have p1 := hb4.cell 1
  have p2 := hb4.cell 2
  have p3 := hb4.cell 3
  have hbz := hide (put4_below (x := .slice none 0 0) (y := .slice none 0 0) (z := .int .i64 0) (u := .slice none 0 0) hbel (show w.heap.size ≤ w.heap.size + 1 by omega))
  unfold put4 put3 at p0 p1 p2 p3 hbz
  clear hb4
  go_wp2_with fail
  refine bodyPost_ret (v := .tuple #[.agg #[.slice none 0 0, .slice none 0 0, .int .i64 0, .slice none 0 0], .int .i64 k]) (by simp [results, Tryz.results8, go_sem, p0, p1, p2, p3]) rfl ?_
  exact ⟨_, by rw [hC.out], by rw [hV.out]; exact quotient_none _ _ (fun b hb => hb.2) 0, hbz.out⟩
theorem Cs.values {os vs xs : List Int} {D : Int} (hC : Cs os D vs xs) : ∀ v ∈ (condQ os D vs xs).2.2.2, 0 ≤ v ∧ v < D := by
 intro v hv
 unfold condQ ldO at hv
 simp only at hv
 obtain ⟨y, hy, rfl⟩ := List.mem_map.1 hv
 have h1 := hC.lrng rfl y hy
 have h2 := hC.m.ok.vl (k := y.toNat) (by omega)
 unfold Vl
 exact ⟨h2.2.1, h2.2.2⟩
theorem Cs.vlen {os vs xs : List Int} {D : Int} (hC : Cs os D vs xs) : (condQ os D vs xs).2.2.2.length ≤ 16 := by
 unfold condQ ldO
 simp only [List.length_map]
 exact Nat.le_trans (ldL_len _ _ _ _) (hC.lenO rfl)
theorem cqR_vals (os : List Int) (D : Int) (vs xs : List Int) : (cqR os D vs xs).2.2.2.length ≤ 16 ∧ ((cqR os D vs xs).2.2.2 ≠ [] → codeI os D vs xs = 0) ∧ ∀ v ∈ (cqR os D vs xs).2.2.2, 0 ≤ v ∧ v < D := by
 unfold cqR
 by_cases hk : codeI os D vs xs = 0
 ·rw [if_pos hk]
  have hC := (codeI_0 hk).1
  exact ⟨hC.vlen, fun _ => hk, hC.values⟩
 ·rw [if_neg hk]
  exact ⟨by simp, fun h => absurd rfl h, by simp⟩
def Srt (xs ts : List Int) : Prop := ts.Perm xs ∧ ts.Pairwise (· ≤ ·)
theorem Srt.nil : Srt [] [] := ⟨List.Perm.refl _, List.Pairwise.nil⟩
noncomputable def voR (os : List Int) (D : Int) (vs xs : List Int) : List Int := srt (cqR os D vs xs).2.2.2
theorem Ow.up {w : World} {B B' : Nat} {v : Value} {xs : List Int} (h : Ow w B v xs) (hB : ∀ b, v.ownBlock = some b → B' ≤ b) : Ow w B' v xs := by
 obtain ⟨h1, h2⟩ := h
 refine ⟨h1, ?_⟩
 rcases h2 with h2 | ⟨g, cap, cur, hv, hg, h3⟩
 ·exact .inl h2
 ·exact .inr ⟨g, cap, cur, hv, hB g (by rw [hv]; rfl), h3⟩
set_option maxHeartbeats 2000000 in
theorem impl_VO_any (w : World) (A : Option Addr) (n c : Nat) (os : List Int) (D : Int) (A' : Option Addr) (n' c' : Nat) (vs : List Int) (L : Option Addr) (l lc : Nat) (xs : List Int)
  (h : Sl w w.heap.size A n c os) (h' : Sl w w.heap.size A' n' c' vs) (hx : Sl w w.heap.size L l lc xs) (hn : n ≤ 1048576) (hn' : n' ≤ 1048576) (hl : l ≤ 1048576) :
  Calls Tryz.prog 16 #[.agg #[.slice A n c, .int .i64 D, .slice A' n' c'], .slice L l lc] w (MkC w (voR os D vs xs) (codeI os D vs xs)) := by
 obtain rfl := h'.len
 obtain rfl := hx.len
 have hcall := fun W A n c A' n' c' LL l lc => impl_Cond_any W A n c os D A' n' c' vs LL l lc xs
 obtain ⟨k, hk⟩ : ∃ k, codeI os D vs xs = k := ⟨_, rfl⟩
 rw [hk] at hcall
 have hvl := (cqR_vals os D vs xs).1
 have hVR : voR os D vs xs = srt (cqR os D vs xs).2.2.2 := rfl
 obtain ⟨V, hV⟩ : ∃ V, (cqR os D vs xs).2.2.2 = V := ⟨_, rfl⟩
 rw [hV] at hvl hVR
 have HV := hide hV
 have HVR := hide hVR
 have hC := hide hk
 clear hk hV hVR
 go_enter Tryz.func16, Tryz.ntmps16
 go_wp2_with fail
 obtain ⟨W, hW⟩ : ∃ W, w.alloc (.cells #[.slice A n c, .int .i64 D, .slice A' vs.length c'] 26) = W := ⟨_, rfl⟩
 have hbW : Below w.heap.size w W := by rw [← hW]; exact (by repeat (first | assumption | exact Below.refl _ _ | apply below_drewN | apply Below.drew | apply Below.alloc | apply Below.setCell | omega | (focus (simp; done)) | (focus (simp; omega))))
 have hszW : w.heap.size < W.heap.size := by rw [← hW]; simp
 have hsW := hide (show W.heap.size = w.heap.size + 1 by rw [← hW]; simp)
 have bM : Blk W w.heap.size 26 #[.slice A n c, .int .i64 D, .slice A' vs.length c'] := by rw [← hW]; exact Blk.new _ _ _
 have q0 : W.cell? ⟨w.heap.size, 0, none⟩ = some (.slice A n c) := by rw [← hW]; exact (Blk.new _ _ _).cell 0
 have q1 : W.cell? ⟨w.heap.size, 1, none⟩ = some (.int .i64 D) := by rw [← hW]; exact (Blk.new _ _ _).cell 1
 have q2 : W.cell? ⟨w.heap.size, 2, none⟩ = some (.slice A' vs.length c') := by rw [← hW]; exact (Blk.new _ _ _).cell 2
 rw [hW]
 clear hW
 have hs := (h.below hbW).more (Nat.le_of_lt hszW)
 have hs' := (h'.below hbW).more (Nat.le_of_lt hszW)
 have hxs := (hx.below hbW).more (Nat.le_of_lt hszW)
 refine (hcall _ _ _ _ _ _ _ _ _ _ hs hs' hxs hn hn' hl).mono ?_
 rintro e w2 ⟨u, rfl, hE, hb2⟩
 obtain ⟨u1, u2, u3, F1, F2, F3, rfl, h1, h2, h3, _, _, _, _, _, s3, _⟩ := hE
 rw [HV.out] at h3
 obtain ⟨A1, c1, rfl, _⟩ := h1.sl
 obtain ⟨A2, c2, rfl, _⟩ := E2.sl2 h2
 have hO := h3.own.up (B' := w.heap.size) (fun b hb => by have := (s3 b (h3.fp_ b hb)).1; omega)
 obtain ⟨A3, c3, rfl⟩ := hO.val
 obtain ⟨z1, hz1⟩ : ∃ z, (cqR os D vs xs).2.2.1 = z := ⟨_, rfl⟩
 rw [hz1]
 obtain ⟨n1, hn1⟩ : ∃ z, (cqR os D vs xs).1.length = z := ⟨_, rfl⟩
 rw [hn1]
 obtain ⟨n2, hn2⟩ : ∃ z, (cqR os D vs xs).2.1.length = z := ⟨_, rfl⟩
 rw [hn2]
 clear h1 h2 h3 s3 hz1 hn1 hn2
 have hzz := hb2.size
 go_wp2_with fail
 obtain ⟨X, hX⟩ : ∃ X, w2.heap.size = X := ⟨_, rfl⟩
 obtain ⟨W3, hW3⟩ : ∃ W3, w2.alloc (.cells #[.slice A1 n1 c1, .slice A2 n2 c2, .int .i64 z1, .slice A3 V.length c3] 31) = W3 := ⟨_, rfl⟩
 have hB3 : Below W.heap.size W W3 := by rw [← hW3]; exact hb2.alloc hb2.size _
 have hO3 : Ow W3 w.heap.size (.slice A3 V.length c3) V := by rw [← hW3]; exact hO.alloc _
 have bX : Blk W3 X 31 #[.slice A1 n1 c1, .slice A2 n2 c2, .int .i64 z1, .slice A3 V.length c3] := by rw [← hW3]; exact Blk.new' _ _ _ _ hX
 have x3 := bX.cell 3
 try rw [hX]
 try rw [hW3]
 clear hW3 hO
 try go_wp2_with fail
 clear x3
 refine (sort_any W3 w.heap.size _ V hO3 (by omega)).mono ?_
 rintro e w4 ⟨rfl, hO4, hg4⟩
 have bX4 := bX.grown hg4 (hO3.blk_ne bX (by decide))
 have x4 := bX4.cell 3
 have hB4 : Below w.heap.size w w4 := (hbW.trans (hB3.mono (Nat.le_of_lt hszW))).grown hg4 (by have := hB3.size; omega) (fun b hb => (hO3.lt b hb).1)
 go_wp2_with fail
 refine bodyPost_ret (v := .tuple #[.slice A3 V.length c3, .int .i64 k]) (by simp [results, Tryz.results16, go_sem]) rfl ?_
 exact ⟨_, by rw [hC.out], by rw [HVR.out]; exact hO4, hB4⟩
end Go.Proofs.YtbpihnpakolooaaGreatDoor
