
/- Draws: DrawMetricFrom. -/
import Derived.Test.YtneflhachjlmkaaD3
import Derived.Test.YtneflhachjlmkaaX1
import Derived.Deep.DeepCutAuto
import Derived.WalkLawsBesides
namespace Go.Proofs.Ytneflhachjlmkaa
open Go Go.RowKit Grp
set_option linter.unusedSimpArgs false
set_option linter.unusedVariables false
set_option maxRecDepth 100000
/-- Three lists of the call's own, and the source. -/
structure DM (w : World) (S : Nat) (A : Option Addr) (n c : Nat) (vo vq vp : Value) (os qs ps : List Int) (wr : World) : Prop where
  o : Ow wr w.heap.size vo os
  q : Ow wr w.heap.size vq qs
  p : Ow wr w.heap.size vp ps
  oq : Apart vo vq
  op : Apart vo vp
  qp : Apart vq vp
  src : Src w w.heap.size S A n c wr
section
variable {w wr wa w' w2 : World} {S n c : Nat} {A : Option Addr} {vo vq vp : Value} {os qs ps : List Int}
theorem Src.all {w0 : World} {B : Nat} (h : Src w0 B S A n c wr) (hb : Below wr.heap.size wr w') (hB : B ≤ wr.heap.size) : Src w0 B S A n c w' := by
  obtain ⟨⟨a, g, g0, g1, ha, hbl⟩, hbe, hS⟩ := h
  exact ⟨⟨a, g, g0, g1, ha, hbl.all hb⟩, hbe.trans (hb.mono hB), hS⟩
theorem DM.draw (h : DM w S A n c vo vq vp os qs ps wr) (hs : Src w w.heap.size S A n c w') (hg : wr.grownBy w' (some S)) : DM w S A n c vo vq vp os qs ps w' :=
  ⟨h.o.far hg (h.src.ne h.o), h.q.far hg (h.src.ne h.q), h.p.far hg (h.src.ne h.p), h.oq, h.op, h.qp, hs⟩
theorem DM.all (h : DM w S A n c vo vq vp os qs ps wr) (hb : Below wr.heap.size wr w') : DM w S A n c vo vq vp os qs ps w' :=
  ⟨h.o.below hb, h.q.below hb, h.p.below hb, h.oq, h.op, h.qp, h.src.all hb h.src.below.size⟩
theorem DM.pushq (h : DM w S A n c vo vq vp os qs ps wr) (hba : Below wr.heap.size wr wa) {y : Int} {H g cap : Nat} (hH : wr.heap.size ≤ H) (hP : Pushed wa w.heap.size vq qs y H g cap w2) :
    DM w S A n c vo (.slice (some ⟨g, 0, none⟩) (qs.length + 1) cap) vp os (qs ++ [y]) ps w2 := by
  have h2 := h.all hba
  have ho : ∀ b, vo.ownBlock = some b → b ≠ H + 1 := fun b hb => by have := h.o.lt b hb; omega
  have hp : ∀ b, vp.ownBlock = some b → b ≠ H + 1 := fun b hb => by have := h.p.lt b hb; omega
  exact ⟨hP.far h2.o h2.oq, hP.own, hP.far h2.p h2.qp.symm, hP.apart ho h2.oq, h2.op, (hP.apart hp h2.qp.symm).symm, h2.src.push hP h2.q (Nat.le_refl _) h2.src.below.size⟩
theorem DM.pushp (h : DM w S A n c vo vq vp os qs ps wr) (hba : Below wr.heap.size wr wa) {y : Int} {H g cap : Nat} (hH : wr.heap.size ≤ H) (hP : Pushed wa w.heap.size vp ps y H g cap w2) :
    DM w S A n c vo vq (.slice (some ⟨g, 0, none⟩) (ps.length + 1) cap) os qs (ps ++ [y]) w2 := by
  have h2 := h.all hba
  have ho : ∀ b, vo.ownBlock = some b → b ≠ H + 1 := fun b hb => by have := h.o.lt b hb; omega
  have hq : ∀ b, vq.ownBlock = some b → b ≠ H + 1 := fun b hb => by have := h.q.lt b hb; omega
  exact ⟨hP.far h2.o h2.op, hP.far h2.q h2.qp, hP.own, h2.oq, hP.apart ho h2.op, hP.apart hq h2.qp, h2.src.push hP h2.p (Nat.le_refl _) h2.src.below.size⟩
theorem Ow.setFar {B : Nat} {v : Value} {xs : List Int} (h : Ow wr B v xs) {g i : Nat} (hne : v.ownBlock ≠ some g) (u : Value) : Ow (wr.setCell ⟨g, i, none⟩ u) B v xs :=
  h.far (row := some g) ⟨rfl, rfl, rfl, by simp [World.setCell], fun k _ hk => Below.heap_setCell _ _ _ _ (fun e => hk (by rw [e]))⟩ (fun b hb e => hne (by rw [hb]; exact e.symm))
end
/-- It returned three lists of its own and a modulus. -/
def Mf4 (w : World) (e : Ending) (w' : World) : Prop := ∃ v1 q v2 v3 os qs ps, e = .returned (.tuple #[v1, .int .i64 q, v2, v3]) ∧ Ow w' w.heap.size v1 os ∧ Ow w' w.heap.size v2 qs ∧ Ow w' w.heap.size v3 ps ∧ i64ok q ∧
  ((∀ x ∈ os, i64ok x) ∧ (∀ x ∈ qs, i64ok x) ∧ (∀ x ∈ ps, i64ok x) ∧ os.length ≤ 64 ∧ qs.length ≤ 64 ∧ ps.length ≤ 64) ∧ Below w.heap.size w w'
/-- Small numbers. -/
def Sm (xs : List Int) : Prop := ∀ x ∈ xs, -1 ≤ x ∧ x ≤ 20000000
theorem Sm.snoc {xs : List Int} {y : Int} (h : Sm xs) (h0 : -1 ≤ y) (h1 : y ≤ 20000000) : Sm (xs ++ [y]) := fun x hx => by
  rcases List.mem_append.1 hx with hx | hx
  · exact h x hx
  · rw [List.mem_singleton.1 hx]; exact ⟨h0, h1⟩
theorem Sm.set {xs : List Int} {k : Nat} {y : Int} (h : Sm xs) (h0 : -1 ≤ y) (h1 : y ≤ 20000000) : Sm (xs.set k y) := fun x hx => by
  rcases List.mem_or_eq_of_mem_set hx with hx | rfl
  · exact h x hx
  · exact ⟨h0, h1⟩
theorem Sm.ok {xs : List Int} (h : Sm xs) : ∀ x ∈ xs, i64ok x := fun x hx => by have := h x hx; exact ⟨by omega, by omega⟩
set_option maxHeartbeats 8000000 in
theorem drawMf_any (w : World) (A : Option Addr) (n c : Nat) (bs : List Int) (hb : SlB w w.heap.size A n c bs) (hn : n ≤ 4096) : Calls Try.prog 78 #[.slice A n c] w (Mf4 w) := by
  go_enter Try.func78, Try.ntmps78
  go_wp2_with fail
  refine (l01From_any w A n c bs hb hn).mono ?_
  rintro e w1 ⟨S, rfl, hs1⟩
  go_wp2_with fail
  refine (orders2_any w w1 w.heap.size S A n c bs hb (by omega) hs1 hs1.below.size 16 (by omega) (by omega)).mono ?_
  rintro e w2 ⟨vo, os, rfl, hO, ⟨hor, hol, -, -, hone⟩, hs2, hg2⟩
  have hne := hone (by omega)
  have hol1 : 1 ≤ os.length := by cases os with | nil => exact absurd rfl hne | cons a r => simp
  have hO1 := hO.less (show w.heap.size ≤ w1.heap.size from hs1.below.size)
  rcases hO1.form with ⟨_, e1⟩ | ⟨bo, co, rfl, _, _, _⟩
  · exact absurd e1 hne
  clear hO hs1 hg2 hone hne
  go_wp2_with fail
  refine (l01Pick_any w _ w.heap.size S A n c bs hb (by omega) (hs2.alloc _) w2.heap.size 2 11 [2, 4, 8, 3, 9, 6, 12, 16, 24, 13, 0] (Blk.new _ _ _) (by have := hs2.lt; omega) rfl (by omega) (by omega)).mono ?_
  rintro e w3 ⟨q, rfl, hq, hs3, hg3⟩
  have hq2 : 0 ≤ q ∧ q ≤ 24 := pick_mem hq (by decide)
  obtain ⟨q0, q1⟩ := hq2
  have hqk : i64ok q := ⟨by omega, by omega⟩
  have hO3 := (hO1.alloc _).far hg3 (hs2.ne hO1)
  have HOR := hide hor
  clear hq hO1 hs2 hg3 hor
  obtain ⟨W, hW⟩ : ∃ W, (w3.alloc (.cells #[] 2)).alloc (.cells #[] 2) = W := ⟨_, rfl⟩
  have hB3 : Below w3.heap.size w3 W := by rw [← hW]; exact (by repeat (first | assumption | exact Below.refl _ _ | apply below_drewN | apply Below.drew | apply Below.alloc | apply Below.setCell | omega | (focus (simp; done)) | (focus (simp; omega))))
  have hz3 := hs3.below.size
  have hD : DM w S A n c (.slice (some ⟨bo, 0, none⟩) os.length co) (.slice (some ⟨w3.heap.size, 0, none⟩) 0 0) (.slice (some ⟨w3.heap.size + 1, 0, none⟩) 0 0) os [] [] W := by
    have hl := hO3.lt bo rfl
    refine ⟨hO3.below hB3, ?_, ?_, fun b hb e => ?_, fun b hb e => ?_, fun b hb e => ?_, hs3.all hB3 hz3⟩
    · rw [← hW]; exact (Ow.made' (xs := []) w3 #[] w3.heap.size 0 rfl rfl hz3 rfl (by unfold maxLen; omega)).alloc _
    · rw [← hW]; exact Ow.made' (xs := []) _ #[] (w3.heap.size + 1) 0 (by simp) rfl (by omega) rfl (by unfold maxLen; omega)
    · simp only [Value.ownBlock, Option.some.injEq] at hb e; omega
    · simp only [Value.ownBlock, Option.some.injEq] at hb e; omega
    · simp only [Value.ownBlock, Option.some.injEq] at hb e; omega
  go_wp2_with fail
  try rw [hW]
  clear hW hB3 hO3 hs3 hz3
  go_loopw [9, 10, 11] (fun s p i wr => ∃ (k : Nat) (vq vp : Value) (qs ps : List Int), k ≤ os.length ∧ vq = s ∧ vp = p ∧ i = .int .i64 k ∧ Hid (Sm qs ∧ Sm ps ∧ qs.length = k ∧ ps.length ≤ 3 * k) ∧ DM w S A n c (.slice (some ⟨bo, 0, none⟩) os.length co) vq vp os qs ps wr) (fun _ _ i _ => os.length - (intOf i).toNat)
  case atStart => exact ⟨0, _, _, [], [], by omega, rfl, rfl, rfl, hide ⟨by simp [Sm], by simp [Sm], rfl, by simp⟩, hD⟩
  case round =>
    clear hD
    obtain ⟨k, vq, vp, qs, ps, hk, rfl, rfl, rfl, hL, hD⟩ := hrel
    by_cases hlt : k < os.length
    · obtain ⟨o2, o12⟩ := HOR.out _ (gi_mem hlt)
      obtain ⟨o, eo⟩ : ∃ o : Nat, gi os k = (o : Int) := ⟨(gi os k).toNat, by omega⟩
      rw [eo] at o2 o12
      have EO := hide eo
      clear eo
      go_wp2_with fail
      refine (l01Next_any w _ w.heap.size S A n c bs hb (by omega) hD.src q hqk).mono ?_
      rintro e w4 ⟨xo, rfl, ⟨x0, -, x2⟩, hs4, hg4⟩
      replace hD := hD.draw hs4 hg4
      clear hs4 hg4
      by_cases hqp : 0 < q
      · go_wp2_with fail
        refine (l01Next_any w _ w.heap.size S A n c bs hb (by omega) hD.src 3 ⟨by omega, by omega⟩).mono ?_
        rintro e w5 ⟨z, rfl, ⟨z0, -, -⟩, hs5, hg5⟩
        replace hD := hD.draw hs5 hg5
        clear hs5 hg5
        by_cases hz : 0 < z
        · obtain ⟨qN, hqN⟩ : ∃ qN : Nat, (qN : Int) = q := ⟨q.toNat, by omega⟩
          have hqn0 : 0 < qN := by omega
          have hqi : ¬ q = 0 := by omega
          obtain ⟨p, hp⟩ : ∃ p : Nat, 2 * o = p := ⟨_, rfl⟩
          have t1 : IntKind.i64.wrap (2 * (o : Int)) = (p : Int) := by rw [wr64 _ ⟨by omega, by omega⟩]; omega
          have hgp : 0 < Nat.gcd qN p := Nat.gcd_pos_of_pos_left _ (by omega)
          have hgc := fun W => l10Common_any W qN p (by omega) (by omega)
          obtain ⟨gN, hgN⟩ : ∃ g, Nat.gcd qN p = g := ⟨_, rfl⟩
          rw [hgN] at hgp
          simp only [hgN, hqN] at hgc
          have g0 : ¬ gN = 0 := by omega
          have gi0 : ¬ (gN : Int) = 0 := by omega
          obtain ⟨d, hd⟩ : ∃ d : Nat, qN / gN = d := ⟨_, rfl⟩
          have t2 : q.tdiv gN = (d : Int) := by rw [← hqN, Int.tdiv_eq_ediv_of_nonneg (by omega), ← hd]; rfl
          have hdl : d ≤ qN := by rw [← hd]; exact Nat.div_le_self _ _
          have ck := hD.o.cell rfl hlt
          rw [EO.out] at ck
          have hpb : (p : Int) ≤ 24 := by omega
          have hp1 : 1 ≤ (p : Int) := by omega
          have k0 : 0 ≤ (k : Int) := by omega
          have k1 : (k : Int) < (os.length : Int) := by omega
          clear hp hd hgN
          go_wp2_with fail
          refine wp_region_ord [0, 1, 2, 3, 4, 5, 6, 9, 10, 11, 12, 13, 14, 17, 7, 8, 15, 16, 18, 19] 19 (fun wx => wx.cell? ⟨bo, k, none⟩ = some (.int .i64 o)) (by kernel_rfl) (by kernel_rfl) (by kernel_rfl) (fun _ _ _ _ _ h => h) ck ?_
          repeat (apply ord_take rfl (by rfl) (by rfl); (focus (intro w hSw; (try dsimp only at hSw); go_simp; (try with_reducible rfl))); (try simp only [Act.put, List.setIfInBounds_toArray, List.set_cons_zero, List.set_cons_succ]))
          refine ord_do rfl (by rfl) (by rfl) (fun K hK => ?_)
          go_simp
          refine (hgc _).mono ?_
          rintro e w6 ⟨rfl, m6, hw6⟩
          have hD6 : DM w S A n c (.slice (some ⟨bo, 0, none⟩) os.length co) vq vp os qs ps w6 := by
            rw [hw6]
            exact hD.all (below_drewN ((Below.refl _ _).drew) m6)
          have ck6 : w6.cell? ⟨bo, k, none⟩ = some (.int .i64 o) := by rw [hw6]; exact ck
          clear hw6
          refine hK.out _ _ (fun _ => ck6) ?_
          (try simp only [Act.put, List.setIfInBounds_toArray, List.set_cons_zero, List.set_cons_succ])
          clear hK K
          repeat (apply ord_take rfl (by rfl) (by rfl); (focus (intro w hSw; (try dsimp only at hSw); go_simp; (try with_reducible rfl))); (try simp only [Act.put, List.setIfInBounds_toArray, List.set_cons_zero, List.set_cons_succ]))
          refine ord_do rfl (by rfl) (by rfl) (fun K hK => ?_)
          go_simp
          refine (l01Next_any w _ w.heap.size S A n c bs hb (by omega) hD6.src (p : Int) ⟨by omega, by omega⟩).mono ?_
          rintro e w7 ⟨y, rfl, ⟨y0, y1, -⟩, hs7, hg7⟩
          have hD7 := hD6.draw hs7 hg7
          have y1 := y1 (by omega)
          have ck7 := hD7.o.cell rfl hlt
          rw [EO.out] at ck7
          have m0 : 0 ≤ (d : Int) * y := Int.mul_nonneg (by omega) (by omega)
          have m1 : (d : Int) * y ≤ 24 * 24 := Int.mul_le_mul (by omega) (by omega) (by omega) (by omega)
          have tw : IntKind.i64.wrap (d : Int) = (d : Int) := wr64 _ ⟨by omega, by omega⟩
          have t4 : IntKind.i64.wrap ((d : Int) * y) = (d : Int) * y := wr64 _ ⟨by omega, by omega⟩
          have t5 : ((d : Int) * y).tmod q = (d : Int) * y % q := Int.tmod_eq_emod_of_nonneg m0
          have r0 := Int.emod_nonneg ((d : Int) * y) hqi
          have r1 := Int.emod_lt_of_pos ((d : Int) * y) hqp
          clear hs7 hg7 hD6
          refine hK.out _ _ (fun _ => ck7) ?_
          (try simp only [Act.put, List.setIfInBounds_toArray, List.set_cons_zero, List.set_cons_succ])
          clear hK K
          repeat (apply ord_take rfl (by rfl) (by rfl); (focus (intro w hSw; (try dsimp only at hSw); go_simp; (try with_reducible rfl))); (try simp only [Act.put, List.setIfInBounds_toArray, List.set_cons_zero, List.set_cons_succ]))
          refine ord_do rfl (by rfl) (by rfl) (fun K hK => ?_)
          go_simp
          refine hK.out _ _ (fun h => absurd h (by omega)) ?_
          (try simp only [Act.put, List.setIfInBounds_toArray, List.set_cons_zero, List.set_cons_succ])
          clear hK K
          refine ord_nil ?_
          obtain ⟨ro, hr⟩ : ∃ r, (d : Int) * y % q = r := ⟨_, rfl⟩
          rw [hr] at r0 r1 ⊢
          clear hD tw t4 t5 hr m0 m1
          have hD := hD7
          clear hD7 ck7
          obtain ⟨Aq, cq, rfl⟩ := hD.q.val
          obtain ⟨hSq, hSp, hlq, hlp⟩ := hL.out
          have hwz := hD.src.below.size
          have HL := hide (show Sm (qs ++ [ro]) ∧ (qs ++ [ro]).length = k + 1 from ⟨hSq.snoc (show -1 ≤ ro by omega) (show ro ≤ 20000000 by omega), by simp [hlq]⟩)
          have hlq' : qs.length ≤ 1048576 := by omega
          have HSP := hide hSp
          clear hlq hSq hSp
          go_wp2_with (at_builtin; refine list_push _ rfl _ _ rfl w.heap.size _ _ rfl (hD.q.alloc _) ro _ _ rfl (Blk.new _ _ _) hlq' (by simp; omega) (by simp) ?_; intro g5 cap5 w5 hP)
          have hD5 := hD.pushq ((Below.refl _ _).alloc (Nat.le_refl _) _) (Nat.le_refl _) hP
          have e1 : IntKind.i64.wrap ((k : Int) + 1) = ((k + 1 : Nat) : Int) := by rw [wr64 _ ⟨by omega, by omega⟩]; omega
          clear hP hD
          go_loopw [10, 13] (fun pv i wx => ∃ (j : Nat) (vp : Value) (ps : List Int), k + 1 ≤ j ∧ j ≤ os.length ∧ vp = pv ∧ i = .int .i64 j ∧ Hid (Sm ps) ∧ ps.length ≤ 3 * k + (j - (k + 1)) ∧ DM w S A n c (.slice (some ⟨bo, 0, none⟩) os.length co) (.slice (some ⟨g5, 0, none⟩) (qs.length + 1) cap5) vp os (qs ++ [ro]) ps wx) (fun _ i _ => os.length - (intOf i).toNat)
          case atStart => exact ⟨k + 1, vp, ps, by omega, by omega, rfl, by go_num, HSP, by omega, hD5⟩
          case round =>
            clear hD5 HSP hlp
            obtain ⟨j, vp, ps, hj0, hj, rfl, rfl, hSP, hpl, hD⟩ := hrel
            by_cases hlj : j < os.length
            · obtain ⟨p2, p12⟩ := HOR.out _ (gi_mem hlj)
              obtain ⟨o', eo'⟩ : ∃ o' : Nat, gi os j = (o' : Int) := ⟨(gi os j).toNat, by omega⟩
              rw [eo'] at p2 p12
              have EO' := hide eo'
              clear eo'
              go_wp2_with fail
              refine (l01Next_any w _ w.heap.size S A n c bs hb (by omega) hD.src q hqk).mono ?_
              rintro e w4 ⟨x, rfl, ⟨x0, -, x2⟩, hs4, hg4⟩
              replace hD := hD.draw hs4 hg4
              clear hs4 hg4
              go_wp2_with fail
              refine (l01Next_any w _ w.heap.size S A n c bs hb (by omega) hD.src 3 ⟨by omega, by omega⟩).mono ?_
              rintro e w5 ⟨z, rfl, ⟨z0, -, -⟩, hs5, hg5⟩
              replace hD := hD.draw hs5 hg5
              clear hs5 hg5
              by_cases hz : 0 < z
              · obtain ⟨qN, hqN⟩ : ∃ qN : Nat, (qN : Int) = q := ⟨q.toNat, by omega⟩
                have hqn0 : 0 < qN := by omega
                have hqi : ¬ q = 0 := by omega
                have hgc1 := fun W => l10Common_any W o o' (by omega) (by omega)
                have hfp : 0 < Nat.gcd o o' := Nat.gcd_pos_of_pos_left _ (by omega)
                have hfl : Nat.gcd o o' ≤ o := Nat.gcd_le_left _ (by omega)
                obtain ⟨f, hf⟩ : ∃ f, Nat.gcd o o' = f := ⟨_, rfl⟩
                rw [hf] at hfp hfl
                simp only [hf] at hgc1
                have hgp : 0 < Nat.gcd qN f := Nat.gcd_pos_of_pos_left _ (by omega)
                have hgc := fun W => l10Common_any W qN f (by omega) (by omega)
                obtain ⟨gN, hgN⟩ : ∃ g, Nat.gcd qN f = g := ⟨_, rfl⟩
                rw [hgN] at hgp
                simp only [hgN, hqN] at hgc
                have g0 : ¬ gN = 0 := by omega
                have gi0 : ¬ (gN : Int) = 0 := by omega
                obtain ⟨d, hd⟩ : ∃ d : Nat, qN / gN = d := ⟨_, rfl⟩
                have t2 : q.tdiv gN = (d : Int) := by rw [← hqN, Int.tdiv_eq_ediv_of_nonneg (by omega), ← hd]; rfl
                have hdl : d ≤ qN := by rw [← hd]; exact Nat.div_le_self _ _
                have ck := hD.o.cell rfl hlt
                rw [EO.out] at ck
                have cj := hD.o.cell rfl hlj
                rw [EO'.out] at cj
                have k0 : 0 ≤ (k : Int) := by omega
                have k1 : (k : Int) < (os.length : Int) := by omega
                have j0 : 0 ≤ (j : Int) := by omega
                have j1 : (j : Int) < (os.length : Int) := by omega
                clear hf hd hgN
                go_wp2_with fail
                refine wp_region_ord [0, 1, 2, 3, 4, 5, 6, 7, 8, 9, 13, 14, 15, 16, 17, 20, 10, 11, 12, 18, 19, 21, 22] 22 (fun wx => wx.cell? ⟨bo, k, none⟩ = some (.int .i64 o) ∧ wx.cell? ⟨bo, j, none⟩ = some (.int .i64 o')) (by kernel_rfl) (by kernel_rfl) (by kernel_rfl) (fun _ _ _ _ _ h => h) ⟨ck, cj⟩ ?_
                repeat (apply ord_take rfl (by rfl) (by rfl); (focus (intro w hSw; (try dsimp only at hSw); go_simp; (try with_reducible rfl))); (try simp only [Act.put, List.setIfInBounds_toArray, List.set_cons_zero, List.set_cons_succ]))
                refine ord_do rfl (by rfl) (by rfl) (fun K hK => ?_)
                go_simp
                refine (hgc1 _).mono ?_
                rintro e w6 ⟨rfl, m6, hw6⟩
                have hD6 : DM w S A n c (.slice (some ⟨bo, 0, none⟩) os.length co) (.slice (some ⟨g5, 0, none⟩) (qs.length + 1) cap5) vp os (qs ++ [ro]) ps w6 := by
                  rw [hw6]
                  exact hD.all (below_drewN ((Below.refl _ _).drew) m6)
                have ck6 : w6.cell? ⟨bo, k, none⟩ = some (.int .i64 o) := by rw [hw6]; exact ck
                have cj6 : w6.cell? ⟨bo, j, none⟩ = some (.int .i64 o') := by rw [hw6]; exact cj
                clear hw6
                refine hK.out _ _ (fun _ => ⟨ck6, cj6⟩) ?_
                (try simp only [Act.put, List.setIfInBounds_toArray, List.set_cons_zero, List.set_cons_succ])
                clear hK K
                repeat (apply ord_take rfl (by rfl) (by rfl); (focus (intro w hSw; (try dsimp only at hSw); go_simp; (try with_reducible rfl))); (try simp only [Act.put, List.setIfInBounds_toArray, List.set_cons_zero, List.set_cons_succ]))
                refine ord_do rfl (by rfl) (by rfl) (fun K hK => ?_)
                go_simp
                refine (hgc _).mono ?_
                rintro e w8 ⟨rfl, m8, hw8⟩
                have hD8 : DM w S A n c (.slice (some ⟨bo, 0, none⟩) os.length co) (.slice (some ⟨g5, 0, none⟩) (qs.length + 1) cap5) vp os (qs ++ [ro]) ps w8 := by
                  rw [hw8]
                  exact hD6.all (below_drewN (Below.refl _ _) m8)
                have ck8 : w8.cell? ⟨bo, k, none⟩ = some (.int .i64 o) := by rw [hw8]; exact ck6
                have cj8 : w8.cell? ⟨bo, j, none⟩ = some (.int .i64 o') := by rw [hw8]; exact cj6
                clear hw8
                refine hK.out _ _ (fun _ => ⟨ck8, cj8⟩) ?_
                (try simp only [Act.put, List.setIfInBounds_toArray, List.set_cons_zero, List.set_cons_succ])
                clear hK K
                repeat (apply ord_take rfl (by rfl) (by rfl); (focus (intro w hSw; (try dsimp only at hSw); go_simp; (try with_reducible rfl))); (try simp only [Act.put, List.setIfInBounds_toArray, List.set_cons_zero, List.set_cons_succ]))
                refine ord_do rfl (by rfl) (by rfl) (fun K hK => ?_)
                go_simp
                refine (l01Next_any w _ w.heap.size S A n c bs hb (by omega) hD8.src (o : Int) ⟨by omega, by omega⟩).mono ?_
                rintro e w7 ⟨y, rfl, ⟨y0, y1, -⟩, hs7, hg7⟩
                have hD7 := hD8.draw hs7 hg7
                have y1 := y1 (by omega)
                have ck7 := hD7.o.cell rfl hlt
                rw [EO.out] at ck7
                have cj7 := hD7.o.cell rfl hlj
                rw [EO'.out] at cj7
                have m0 : 0 ≤ (d : Int) * y := Int.mul_nonneg (by omega) (by omega)
                have m1 : (d : Int) * y ≤ 24 * 24 := Int.mul_le_mul (by omega) (by omega) (by omega) (by omega)
                have tw : IntKind.i64.wrap (d : Int) = (d : Int) := wr64 _ ⟨by omega, by omega⟩
                have t4 : IntKind.i64.wrap ((d : Int) * y) = (d : Int) * y := wr64 _ ⟨by omega, by omega⟩
                have t5 : ((d : Int) * y).tmod q = (d : Int) * y % q := Int.tmod_eq_emod_of_nonneg m0
                have r0 := Int.emod_nonneg ((d : Int) * y) hqi
                have r1 := Int.emod_lt_of_pos ((d : Int) * y) hqp
                clear hs7 hg7 hD6 hD8
                refine hK.out _ _ (fun _ => ⟨ck7, cj7⟩) ?_
                (try simp only [Act.put, List.setIfInBounds_toArray, List.set_cons_zero, List.set_cons_succ])
                clear hK K
                repeat (apply ord_take rfl (by rfl) (by rfl); (focus (intro w hSw; (try dsimp only at hSw); go_simp; (try with_reducible rfl))); (try simp only [Act.put, List.setIfInBounds_toArray, List.set_cons_zero, List.set_cons_succ]))
                refine ord_do rfl (by rfl) (by rfl) (fun K hK => ?_)
                go_simp
                refine hK.out _ _ (fun h => absurd h (by omega)) ?_
                (try simp only [Act.put, List.setIfInBounds_toArray, List.set_cons_zero, List.set_cons_succ])
                clear hK K
                refine ord_nil ?_
                obtain ⟨r, hr⟩ : ∃ r, (d : Int) * y % q = r := ⟨_, rfl⟩
                rw [hr] at r0 r1 ⊢
                clear hD tw t4 t5 hr m0 m1
                have hD := hD7
                clear hD7 ck7 cj7
                obtain ⟨Ap, cp, rfl⟩ := hD.p.val
                have hwz := hD.src.below.size
                have HSP2 := hide (show Sm (ps ++ [r]) from hSP.out.snoc (show -1 ≤ r by omega) (show r ≤ 20000000 by omega))
                go_wp2_with (at_builtin; refine list_push _ rfl _ _ rfl w.heap.size _ _ rfl (hD.p.alloc _) r _ _ rfl (Blk.new _ _ _) (by omega) (by simp; omega) (by simp) ?_; intro g6 cap6 w6 hP)
                have hD6 := hD.pushp ((Below.refl _ _).alloc (Nat.le_refl _) _) (Nat.le_refl _) hP
                clear hP hD
                go_roundw
                case rel => exact ⟨j + 1, _, _, by omega, by omega, rfl, by go_num, HSP2, by rw [List.length_append]; simp only [List.length_singleton]; omega, hD6⟩
                case measure => simp [intOf] <;> omega
              · skip
                obtain ⟨Ap, cp, rfl⟩ := hD.p.val
                have hwz := hD.src.below.size
                have HSP2 := hide (show Sm (ps ++ [x]) from hSP.out.snoc (show -1 ≤ x by omega) (show x ≤ 20000000 by omega))
                go_wp2_with (at_builtin; refine list_push _ rfl _ _ rfl w.heap.size _ _ rfl (hD.p.alloc _) x _ _ rfl (Blk.new _ _ _) (by omega) (by simp; omega) (by simp) ?_; intro g6 cap6 w6 hP)
                have hD6 := hD.pushp ((Below.refl _ _).alloc (Nat.le_refl _) _) (Nat.le_refl _) hP
                clear hP hD
                go_roundw
                case rel => exact ⟨j + 1, _, _, by omega, by omega, rfl, by go_num, HSP2, by rw [List.length_append]; simp only [List.length_singleton]; omega, hD6⟩
                case measure => simp [intOf] <;> omega
            · obtain rfl : j = os.length := by omega
              have HL3 := hide (show Sm (qs ++ [ro]) ∧ Sm ps ∧ (qs ++ [ro]).length = k + 1 ∧ ps.length ≤ 3 * (k + 1) from ⟨HL.out.1, hSP.out, HL.out.2, by omega⟩)
              go_wp2_with fail
              go_roundw
              case rel => exact ⟨k + 1, _, vp, qs ++ [ro], ps, by omega, rfl, rfl, by go_num, HL3, hD⟩
              case measure => simp [intOf] <;> omega
        · skip
          obtain ⟨Aq, cq, rfl⟩ := hD.q.val
          obtain ⟨hSq, hSp, hlq, hlp⟩ := hL.out
          have hwz := hD.src.below.size
          have HL := hide (show Sm (qs ++ [xo]) ∧ (qs ++ [xo]).length = k + 1 from ⟨hSq.snoc (show -1 ≤ xo by omega) (show xo ≤ 20000000 by omega), by simp [hlq]⟩)
          have hlq' : qs.length ≤ 1048576 := by omega
          have HSP := hide hSp
          clear hlq hSq hSp
          go_wp2_with (at_builtin; refine list_push _ rfl _ _ rfl w.heap.size _ _ rfl (hD.q.alloc _) xo _ _ rfl (Blk.new _ _ _) hlq' (by simp; omega) (by simp) ?_; intro g5 cap5 w5 hP)
          have hD5 := hD.pushq ((Below.refl _ _).alloc (Nat.le_refl _) _) (Nat.le_refl _) hP
          have e1 : IntKind.i64.wrap ((k : Int) + 1) = ((k + 1 : Nat) : Int) := by rw [wr64 _ ⟨by omega, by omega⟩]; omega
          clear hP hD
          go_loopw [10, 13] (fun pv i wx => ∃ (j : Nat) (vp : Value) (ps : List Int), k + 1 ≤ j ∧ j ≤ os.length ∧ vp = pv ∧ i = .int .i64 j ∧ Hid (Sm ps) ∧ ps.length ≤ 3 * k + (j - (k + 1)) ∧ DM w S A n c (.slice (some ⟨bo, 0, none⟩) os.length co) (.slice (some ⟨g5, 0, none⟩) (qs.length + 1) cap5) vp os (qs ++ [xo]) ps wx) (fun _ i _ => os.length - (intOf i).toNat)
          case atStart => exact ⟨k + 1, vp, ps, by omega, by omega, rfl, by go_num, HSP, by omega, hD5⟩
          case round =>
            clear hD5 HSP hlp
            obtain ⟨j, vp, ps, hj0, hj, rfl, rfl, hSP, hpl, hD⟩ := hrel
            by_cases hlj : j < os.length
            · obtain ⟨p2, p12⟩ := HOR.out _ (gi_mem hlj)
              obtain ⟨o', eo'⟩ : ∃ o' : Nat, gi os j = (o' : Int) := ⟨(gi os j).toNat, by omega⟩
              rw [eo'] at p2 p12
              have EO' := hide eo'
              clear eo'
              go_wp2_with fail
              refine (l01Next_any w _ w.heap.size S A n c bs hb (by omega) hD.src q hqk).mono ?_
              rintro e w4 ⟨x, rfl, ⟨x0, -, x2⟩, hs4, hg4⟩
              replace hD := hD.draw hs4 hg4
              clear hs4 hg4
              go_wp2_with fail
              refine (l01Next_any w _ w.heap.size S A n c bs hb (by omega) hD.src 3 ⟨by omega, by omega⟩).mono ?_
              rintro e w5 ⟨z, rfl, ⟨z0, -, -⟩, hs5, hg5⟩
              replace hD := hD.draw hs5 hg5
              clear hs5 hg5
              by_cases hz : 0 < z
              · obtain ⟨qN, hqN⟩ : ∃ qN : Nat, (qN : Int) = q := ⟨q.toNat, by omega⟩
                have hqn0 : 0 < qN := by omega
                have hqi : ¬ q = 0 := by omega
                have hgc1 := fun W => l10Common_any W o o' (by omega) (by omega)
                have hfp : 0 < Nat.gcd o o' := Nat.gcd_pos_of_pos_left _ (by omega)
                have hfl : Nat.gcd o o' ≤ o := Nat.gcd_le_left _ (by omega)
                obtain ⟨f, hf⟩ : ∃ f, Nat.gcd o o' = f := ⟨_, rfl⟩
                rw [hf] at hfp hfl
                simp only [hf] at hgc1
                have hgp : 0 < Nat.gcd qN f := Nat.gcd_pos_of_pos_left _ (by omega)
                have hgc := fun W => l10Common_any W qN f (by omega) (by omega)
                obtain ⟨gN, hgN⟩ : ∃ g, Nat.gcd qN f = g := ⟨_, rfl⟩
                rw [hgN] at hgp
                simp only [hgN, hqN] at hgc
                have g0 : ¬ gN = 0 := by omega
                have gi0 : ¬ (gN : Int) = 0 := by omega
                obtain ⟨d, hd⟩ : ∃ d : Nat, qN / gN = d := ⟨_, rfl⟩
                have t2 : q.tdiv gN = (d : Int) := by rw [← hqN, Int.tdiv_eq_ediv_of_nonneg (by omega), ← hd]; rfl
                have hdl : d ≤ qN := by rw [← hd]; exact Nat.div_le_self _ _
                have ck := hD.o.cell rfl hlt
                rw [EO.out] at ck
                have cj := hD.o.cell rfl hlj
                rw [EO'.out] at cj
                have k0 : 0 ≤ (k : Int) := by omega
                have k1 : (k : Int) < (os.length : Int) := by omega
                have j0 : 0 ≤ (j : Int) := by omega
                have j1 : (j : Int) < (os.length : Int) := by omega
                clear hf hd hgN
                go_wp2_with fail
                refine wp_region_ord [0, 1, 2, 3, 4, 5, 6, 7, 8, 9, 13, 14, 15, 16, 17, 20, 10, 11, 12, 18, 19, 21, 22] 22 (fun wx => wx.cell? ⟨bo, k, none⟩ = some (.int .i64 o) ∧ wx.cell? ⟨bo, j, none⟩ = some (.int .i64 o')) (by kernel_rfl) (by kernel_rfl) (by kernel_rfl) (fun _ _ _ _ _ h => h) ⟨ck, cj⟩ ?_
                repeat (apply ord_take rfl (by rfl) (by rfl); (focus (intro w hSw; (try dsimp only at hSw); go_simp; (try with_reducible rfl))); (try simp only [Act.put, List.setIfInBounds_toArray, List.set_cons_zero, List.set_cons_succ]))
                refine ord_do rfl (by rfl) (by rfl) (fun K hK => ?_)
                go_simp
                refine (hgc1 _).mono ?_
                rintro e w6 ⟨rfl, m6, hw6⟩
                have hD6 : DM w S A n c (.slice (some ⟨bo, 0, none⟩) os.length co) (.slice (some ⟨g5, 0, none⟩) (qs.length + 1) cap5) vp os (qs ++ [xo]) ps w6 := by
                  rw [hw6]
                  exact hD.all (below_drewN ((Below.refl _ _).drew) m6)
                have ck6 : w6.cell? ⟨bo, k, none⟩ = some (.int .i64 o) := by rw [hw6]; exact ck
                have cj6 : w6.cell? ⟨bo, j, none⟩ = some (.int .i64 o') := by rw [hw6]; exact cj
                clear hw6
                refine hK.out _ _ (fun _ => ⟨ck6, cj6⟩) ?_
                (try simp only [Act.put, List.setIfInBounds_toArray, List.set_cons_zero, List.set_cons_succ])
                clear hK K
                repeat (apply ord_take rfl (by rfl) (by rfl); (focus (intro w hSw; (try dsimp only at hSw); go_simp; (try with_reducible rfl))); (try simp only [Act.put, List.setIfInBounds_toArray, List.set_cons_zero, List.set_cons_succ]))
                refine ord_do rfl (by rfl) (by rfl) (fun K hK => ?_)
                go_simp
                refine (hgc _).mono ?_
                rintro e w8 ⟨rfl, m8, hw8⟩
                have hD8 : DM w S A n c (.slice (some ⟨bo, 0, none⟩) os.length co) (.slice (some ⟨g5, 0, none⟩) (qs.length + 1) cap5) vp os (qs ++ [xo]) ps w8 := by
                  rw [hw8]
                  exact hD6.all (below_drewN (Below.refl _ _) m8)
                have ck8 : w8.cell? ⟨bo, k, none⟩ = some (.int .i64 o) := by rw [hw8]; exact ck6
                have cj8 : w8.cell? ⟨bo, j, none⟩ = some (.int .i64 o') := by rw [hw8]; exact cj6
                clear hw8
                refine hK.out _ _ (fun _ => ⟨ck8, cj8⟩) ?_
                (try simp only [Act.put, List.setIfInBounds_toArray, List.set_cons_zero, List.set_cons_succ])
                clear hK K
                repeat (apply ord_take rfl (by rfl) (by rfl); (focus (intro w hSw; (try dsimp only at hSw); go_simp; (try with_reducible rfl))); (try simp only [Act.put, List.setIfInBounds_toArray, List.set_cons_zero, List.set_cons_succ]))
                refine ord_do rfl (by rfl) (by rfl) (fun K hK => ?_)
                go_simp
                refine (l01Next_any w _ w.heap.size S A n c bs hb (by omega) hD8.src (o : Int) ⟨by omega, by omega⟩).mono ?_
                rintro e w7 ⟨y, rfl, ⟨y0, y1, -⟩, hs7, hg7⟩
                have hD7 := hD8.draw hs7 hg7
                have y1 := y1 (by omega)
                have ck7 := hD7.o.cell rfl hlt
                rw [EO.out] at ck7
                have cj7 := hD7.o.cell rfl hlj
                rw [EO'.out] at cj7
                have m0 : 0 ≤ (d : Int) * y := Int.mul_nonneg (by omega) (by omega)
                have m1 : (d : Int) * y ≤ 24 * 24 := Int.mul_le_mul (by omega) (by omega) (by omega) (by omega)
                have tw : IntKind.i64.wrap (d : Int) = (d : Int) := wr64 _ ⟨by omega, by omega⟩
                have t4 : IntKind.i64.wrap ((d : Int) * y) = (d : Int) * y := wr64 _ ⟨by omega, by omega⟩
                have t5 : ((d : Int) * y).tmod q = (d : Int) * y % q := Int.tmod_eq_emod_of_nonneg m0
                have r0 := Int.emod_nonneg ((d : Int) * y) hqi
                have r1 := Int.emod_lt_of_pos ((d : Int) * y) hqp
                clear hs7 hg7 hD6 hD8
                refine hK.out _ _ (fun _ => ⟨ck7, cj7⟩) ?_
                (try simp only [Act.put, List.setIfInBounds_toArray, List.set_cons_zero, List.set_cons_succ])
                clear hK K
                repeat (apply ord_take rfl (by rfl) (by rfl); (focus (intro w hSw; (try dsimp only at hSw); go_simp; (try with_reducible rfl))); (try simp only [Act.put, List.setIfInBounds_toArray, List.set_cons_zero, List.set_cons_succ]))
                refine ord_do rfl (by rfl) (by rfl) (fun K hK => ?_)
                go_simp
                refine hK.out _ _ (fun h => absurd h (by omega)) ?_
                (try simp only [Act.put, List.setIfInBounds_toArray, List.set_cons_zero, List.set_cons_succ])
                clear hK K
                refine ord_nil ?_
                obtain ⟨r, hr⟩ : ∃ r, (d : Int) * y % q = r := ⟨_, rfl⟩
                rw [hr] at r0 r1 ⊢
                clear hD tw t4 t5 hr m0 m1
                have hD := hD7
                clear hD7 ck7 cj7
                obtain ⟨Ap, cp, rfl⟩ := hD.p.val
                have hwz := hD.src.below.size
                have HSP2 := hide (show Sm (ps ++ [r]) from hSP.out.snoc (show -1 ≤ r by omega) (show r ≤ 20000000 by omega))
                go_wp2_with (at_builtin; refine list_push _ rfl _ _ rfl w.heap.size _ _ rfl (hD.p.alloc _) r _ _ rfl (Blk.new _ _ _) (by omega) (by simp; omega) (by simp) ?_; intro g6 cap6 w6 hP)
                have hD6 := hD.pushp ((Below.refl _ _).alloc (Nat.le_refl _) _) (Nat.le_refl _) hP
                clear hP hD
                go_roundw
                case rel => exact ⟨j + 1, _, _, by omega, by omega, rfl, by go_num, HSP2, by rw [List.length_append]; simp only [List.length_singleton]; omega, hD6⟩
                case measure => simp [intOf] <;> omega
              · skip
                obtain ⟨Ap, cp, rfl⟩ := hD.p.val
                have hwz := hD.src.below.size
                have HSP2 := hide (show Sm (ps ++ [x]) from hSP.out.snoc (show -1 ≤ x by omega) (show x ≤ 20000000 by omega))
                go_wp2_with (at_builtin; refine list_push _ rfl _ _ rfl w.heap.size _ _ rfl (hD.p.alloc _) x _ _ rfl (Blk.new _ _ _) (by omega) (by simp; omega) (by simp) ?_; intro g6 cap6 w6 hP)
                have hD6 := hD.pushp ((Below.refl _ _).alloc (Nat.le_refl _) _) (Nat.le_refl _) hP
                clear hP hD
                go_roundw
                case rel => exact ⟨j + 1, _, _, by omega, by omega, rfl, by go_num, HSP2, by rw [List.length_append]; simp only [List.length_singleton]; omega, hD6⟩
                case measure => simp [intOf] <;> omega
            · obtain rfl : j = os.length := by omega
              have HL3 := hide (show Sm (qs ++ [xo]) ∧ Sm ps ∧ (qs ++ [xo]).length = k + 1 ∧ ps.length ≤ 3 * (k + 1) from ⟨HL.out.1, hSP.out, HL.out.2, by omega⟩)
              go_wp2_with fail
              go_roundw
              case rel => exact ⟨k + 1, _, vp, qs ++ [xo], ps, by omega, rfl, rfl, by go_num, HL3, hD⟩
              case measure => simp [intOf] <;> omega
      · skip
        obtain ⟨Aq, cq, rfl⟩ := hD.q.val
        obtain ⟨hSq, hSp, hlq, hlp⟩ := hL.out
        have hwz := hD.src.below.size
        have HL := hide (show Sm (qs ++ [xo]) ∧ (qs ++ [xo]).length = k + 1 from ⟨hSq.snoc (show -1 ≤ xo by omega) (show xo ≤ 20000000 by omega), by simp [hlq]⟩)
        have hlq' : qs.length ≤ 1048576 := by omega
        have HSP := hide hSp
        clear hlq hSq hSp
        go_wp2_with (at_builtin; refine list_push _ rfl _ _ rfl w.heap.size _ _ rfl (hD.q.alloc _) xo _ _ rfl (Blk.new _ _ _) hlq' (by simp; omega) (by simp) ?_; intro g5 cap5 w5 hP)
        have hD5 := hD.pushq ((Below.refl _ _).alloc (Nat.le_refl _) _) (Nat.le_refl _) hP
        have e1 : IntKind.i64.wrap ((k : Int) + 1) = ((k + 1 : Nat) : Int) := by rw [wr64 _ ⟨by omega, by omega⟩]; omega
        clear hP hD
        go_loopw [10, 13] (fun pv i wx => ∃ (j : Nat) (vp : Value) (ps : List Int), k + 1 ≤ j ∧ j ≤ os.length ∧ vp = pv ∧ i = .int .i64 j ∧ Hid (Sm ps) ∧ ps.length ≤ 3 * k + (j - (k + 1)) ∧ DM w S A n c (.slice (some ⟨bo, 0, none⟩) os.length co) (.slice (some ⟨g5, 0, none⟩) (qs.length + 1) cap5) vp os (qs ++ [xo]) ps wx) (fun _ i _ => os.length - (intOf i).toNat)
        case atStart => exact ⟨k + 1, vp, ps, by omega, by omega, rfl, by go_num, HSP, by omega, hD5⟩
        case round =>
          clear hD5 HSP hlp
          obtain ⟨j, vp, ps, hj0, hj, rfl, rfl, hSP, hpl, hD⟩ := hrel
          by_cases hlj : j < os.length
          · obtain ⟨p2, p12⟩ := HOR.out _ (gi_mem hlj)
            obtain ⟨o', eo'⟩ : ∃ o' : Nat, gi os j = (o' : Int) := ⟨(gi os j).toNat, by omega⟩
            rw [eo'] at p2 p12
            have EO' := hide eo'
            clear eo'
            go_wp2_with fail
            refine (l01Next_any w _ w.heap.size S A n c bs hb (by omega) hD.src q hqk).mono ?_
            rintro e w4 ⟨x, rfl, ⟨x0, -, x2⟩, hs4, hg4⟩
            replace hD := hD.draw hs4 hg4
            clear hs4 hg4
            obtain ⟨Ap, cp, rfl⟩ := hD.p.val
            have hwz := hD.src.below.size
            have HSP2 := hide (show Sm (ps ++ [x]) from hSP.out.snoc (show -1 ≤ x by omega) (show x ≤ 20000000 by omega))
            go_wp2_with (at_builtin; refine list_push _ rfl _ _ rfl w.heap.size _ _ rfl (hD.p.alloc _) x _ _ rfl (Blk.new _ _ _) (by omega) (by simp; omega) (by simp) ?_; intro g6 cap6 w6 hP)
            have hD6 := hD.pushp ((Below.refl _ _).alloc (Nat.le_refl _) _) (Nat.le_refl _) hP
            clear hP hD
            go_roundw
            case rel => exact ⟨j + 1, _, _, by omega, by omega, rfl, by go_num, HSP2, by rw [List.length_append]; simp only [List.length_singleton]; omega, hD6⟩
            case measure => simp [intOf] <;> omega
          · obtain rfl : j = os.length := by omega
            have HL3 := hide (show Sm (qs ++ [xo]) ∧ Sm ps ∧ (qs ++ [xo]).length = k + 1 ∧ ps.length ≤ 3 * (k + 1) from ⟨HL.out.1, hSP.out, HL.out.2, by omega⟩)
            go_wp2_with fail
            go_roundw
            case rel => exact ⟨k + 1, _, vp, qs ++ [xo], ps, by omega, rfl, rfl, by go_num, HL3, hD⟩
            case measure => simp [intOf] <;> omega
    · obtain rfl : k = os.length := by omega
      obtain ⟨hSq, hSp, hlq, hlp⟩ := hL.out
      obtain ⟨Aq, cq, rfl⟩ := hD.q.val
      obtain ⟨Ap, cp, rfl⟩ := hD.p.val
      have hwz := hD.src.below.size
      have hSo : Sm os := fun x hx => by have := HOR.out x hx; exact ⟨by omega, by omega⟩
      have HS := hide (And.intro hSo (And.intro hSq hSp))
      have hlq1 : qs.length ≤ 16 := by omega
      have hlq2 : 1 ≤ qs.length := by omega
      have hlp1 : ps.length ≤ 16 := by omega
      clear hSo hSq hSp hlq hlp hL
      go_wp2_with fail
      refine (l01Next_any w _ w.heap.size S A n c bs hb (by omega) hD.src 24 ⟨by omega, by omega⟩).mono ?_
      rintro e w4 ⟨x, rfl, ⟨x0, -, -⟩, hs4, hg4⟩
      replace hD := hD.draw hs4 hg4
      have hwz4 := hs4.below.size
      clear hs4 hg4 hwz
      by_cases h0 : x = 0
      · subst h0
        have HF := hide (show Sm os ∧ Sm (qs ++ [0]) ∧ Sm ps from ⟨HS.out.1, HS.out.2.1.snoc (by omega) (by omega), HS.out.2.2⟩)
        go_wp2_with (at_builtin; refine list_push _ rfl _ _ rfl w.heap.size _ _ rfl (hD.q.alloc _) 0 _ _ rfl (Blk.new _ _ _) (by omega) (by simp; omega) (by simp) ?_; intro g6 cap6 w6 hP)
        have hD6 := hD.pushq ((Below.refl _ _).alloc (Nat.le_refl _) _) (Nat.le_refl _) hP
        refine bodyPost_ret (v := .tuple #[.slice (some ⟨bo, 0, none⟩) os.length co, .int .i64 q, .slice (some ⟨g6, 0, none⟩) (qs.length + 1) cap6, .slice Ap ps.length cp]) (by simp [results, Try.results78, go_sem]) rfl ?_
        exact ⟨_, _, _, _, os, qs ++ [0], ps, rfl, hD6.o, hD6.q, hD6.p, hqk, ⟨HF.out.1.ok, HF.out.2.1.ok, HF.out.2.2.ok, by omega, by rw [List.length_append]; simp only [List.length_singleton]; omega, by omega⟩, hD6.src.below⟩
      · by_cases h1 : x = 1
        · subst h1
          have HF := hide (show Sm os ∧ Sm qs ∧ Sm (ps ++ [0]) from ⟨HS.out.1, HS.out.2.1, HS.out.2.2.snoc (by omega) (by omega)⟩)
          go_wp2_with (at_builtin; refine list_push _ rfl _ _ rfl w.heap.size _ _ rfl (hD.p.alloc _) 0 _ _ rfl (Blk.new _ _ _) (by omega) (by simp; omega) (by simp) ?_; intro g6 cap6 w6 hP)
          have hD6 := hD.pushp ((Below.refl _ _).alloc (Nat.le_refl _) _) (Nat.le_refl _) hP
          refine bodyPost_ret (v := .tuple #[.slice (some ⟨bo, 0, none⟩) os.length co, .int .i64 q, .slice Aq qs.length cq, .slice (some ⟨g6, 0, none⟩) (ps.length + 1) cap6]) (by simp [results, Try.results78, go_sem]) rfl ?_
          exact ⟨_, _, _, _, os, qs, ps ++ [0], rfl, hD6.o, hD6.q, hD6.p, hqk, ⟨HF.out.1.ok, HF.out.2.1.ok, HF.out.2.2.ok, by omega, by omega, by rw [List.length_append]; simp only [List.length_singleton]; omega⟩, hD6.src.below⟩
        · by_cases h2 : x = 2
          · subst h2
            rcases hD.q.form with ⟨_, eq0⟩ | ⟨gq, cq', eq1, hgq, hgl, _⟩
            · rw [eq0] at hlq2; simp at hlq2
            injection eq1 with eq2 _ eq3
            subst eq2
            subst eq3
            go_wp2_with fail
            refine (l01Pick_any w _ w.heap.size S A n c bs hb (by omega) (hD.src.alloc _) w4.heap.size 2 2 [-1, q] (Blk.new _ _ _) (by have := hD.src.lt; omega) rfl (by omega) (by omega)).mono ?_
            rintro e w5 ⟨y, rfl, hy, hs5, hg5⟩
            have hy2 : -1 ≤ y ∧ y ≤ 20000000 := by simp at hy; omega
            replace hD := (hD.all ((Below.refl _ _).alloc (Nat.le_refl _) _)).draw hs5 hg5
            have HF := hide (show Sm os ∧ Sm (qs.set 0 y) ∧ Sm ps from ⟨HS.out.1, HS.out.2.1.set hy2.1 hy2.2, HS.out.2.2⟩)
            have c0 := hD.q.cell rfl (k := 0) hlq2
            have f0 := hD.q.frozen rfl 0
            have z0 : (0 : Int) < (qs.length : Int) := by omega
            go_wp2_with fail
            refine bodyPost_ret (v := .tuple #[.slice (some ⟨bo, 0, none⟩) os.length co, .int .i64 q, .slice (some ⟨gq, 0, none⟩) qs.length cq, .slice Ap ps.length cp]) (by simp [results, Try.results78, go_sem]) rfl ?_
            exact ⟨_, _, _, _, os, qs.set 0 y, ps, rfl, hD.o.setFar (fun e => hD.oq gq e rfl) _, by have := hD.q.store rfl 0 y; exact this, hD.p.setFar (fun e => hD.qp gq rfl e) _, hqk, ⟨HF.out.1.ok, HF.out.2.1.ok, HF.out.2.2.ok, by omega, by rw [List.length_set]; omega, by omega⟩, hD.src.below.setCell hgq _⟩
          · by_cases h3 : x = 3
            · subst h3
              have hgo := (hD.o.lt bo rfl).1
              go_wp2_with fail
              refine (l01Pick_any w _ w.heap.size S A n c bs hb (by omega) (hD.src.alloc _) w4.heap.size 2 2 [1, 17] (Blk.new _ _ _) (by have := hD.src.lt; omega) rfl (by omega) (by omega)).mono ?_
              rintro e w5 ⟨y, rfl, hy, hs5, hg5⟩
              have hy2 : -1 ≤ y ∧ y ≤ 20000000 := by simp at hy; omega
              replace hD := (hD.all ((Below.refl _ _).alloc (Nat.le_refl _) _)).draw hs5 hg5
              have HF := hide (show Sm (os.set 0 y) ∧ Sm qs ∧ Sm ps from ⟨HS.out.1.set hy2.1 hy2.2, HS.out.2.1, HS.out.2.2⟩)
              have c0 := hD.o.cell rfl (k := 0) hol1
              have f0 := hD.o.frozen rfl 0
              have z0 : (0 : Int) < (os.length : Int) := by omega
              go_wp2_with fail
              refine bodyPost_ret (v := .tuple #[.slice (some ⟨bo, 0, none⟩) os.length co, .int .i64 q, .slice Aq qs.length cq, .slice Ap ps.length cp]) (by simp [results, Try.results78, go_sem]) rfl ?_
              exact ⟨_, _, _, _, os.set 0 y, qs, ps, rfl, by have := hD.o.store rfl 0 y; exact this, hD.q.setFar (fun e => hD.oq bo rfl e) _, hD.p.setFar (fun e => hD.op bo rfl e) _, hqk, ⟨HF.out.1.ok, HF.out.2.1.ok, HF.out.2.2.ok, by rw [List.length_set]; omega, by omega, by omega⟩, hD.src.below.setCell hgo _⟩
            · go_wp2_with fail
              refine bodyPost_ret (v := .tuple #[.slice (some ⟨bo, 0, none⟩) os.length co, .int .i64 q, .slice Aq qs.length cq, .slice Ap ps.length cp]) (by simp [results, Try.results78, go_sem]) rfl ?_
              exact ⟨_, _, _, _, os, qs, ps, rfl, hD.o, hD.q, hD.p, hqk, ⟨HS.out.1.ok, HS.out.2.1.ok, HS.out.2.2.ok, by omega, by omega, by omega⟩, hD.src.below⟩
end Go.Proofs.Ytneflhachjlmkaa
