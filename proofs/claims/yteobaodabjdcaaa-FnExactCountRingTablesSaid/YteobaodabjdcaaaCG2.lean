
/- The walk of l03Orders: all permutations that leave 0 alone, put behind a list. -/
import Derived.Test.YteobaodabjdcaaaCT6
import Derived.Test.YteobaodabjdcaaaU1z
namespace Go.Proofs.Yteobaodabjdcaaa
open Go Go.RowKit
set_option linter.unusedSimpArgs false
set_option linter.unusedVariables false
set_option maxRecDepth 100000
theorem list_pushF {α : Type} {E : Own α} (hE : Kp E) {ops : Array Oper} {rest : List Oper} {o : Oper} {a : Act} {Q : Exit → Act → World → Prop} (st t : TypeId) (z : Value) (bytes : Nat) (hu : Try.prog.underlying st = some (.slice t)) (hinfo : (Try.prog.info? t).map (fun i => (i.zero, i.size, i.bytes)) = some (some z, 1, bytes)) (hby : bytes ≤ 24) (hzc : z.cells = #[z])
    (w : World) (hgd : o.guard = none) (s x : Operand) (ho : o.op = .call { callee := .builtin .append, args := #[s, x], argTypes := #[st, st] })
    (v : Value) (xs : List α) (fp : Nat → Prop) (hs : a.eval s = v) (hL : OwL E t w v xs fp) (u : Value) (e : α) (fu : Nat → Prop) (he : E w u e fu) (hfu : ∀ b, fu b → b < w.heap.size) (hd : ∀ b, fu b → ¬ fp b) (hu1 : u.oneCell' = true)
    (H T : Nat) (hx : a.eval x = .slice (some ⟨H, 0, none⟩) 1 1) (hb : Blk w H T #[u]) (hn : xs.length ≤ 1048576) (hH : w.heap.size = H + 1)
    (h : ∀ g cap w', OwL E t w' (.slice (some ⟨g, 0, none⟩) (xs.length + 1) cap) (xs ++ [e]) (fun b => fp b ∨ fu b ∨ b = g) → w.grownBy w' v.ownBlock → (v.ownBlock = some g ∨ g = H + 1) → g < w'.heap.size → wpList Try.prog ops Q rest (a.put o.dst (.slice (some ⟨g, 0, none⟩) (xs.length + 1) cap)) w') :
    wpList Try.prog ops Q (o :: rest) a w := by
  obtain ⟨us, F, h1⟩ := hL.open_
  have hl := h1.len
  refine list_pushV st t z bytes hu hinfo hby hzc w hgd s x ho 0 v us hs h1.row u hu1 H T hx hb (by omega) (Nat.zero_le _) hH ?_
  intro g cap w' hP
  have h4 := OwU.push hE h1 he hd hfu hH hP
  rw [hl]
  obtain ⟨p1, p2, p3, p4⟩ := hP
  exact h g cap w' h4 p2 p3 p4
/-- The permutations of 0 .. n-1 that begin with a list, r places being left. -/
def ordF (n : Nat) : Nat → List Int → List (List Int)
  | 0, s => [s]
  | r + 1, s => (List.range (n - 1)).flatMap fun (i : Nat) => if hasB s ((i : Int) + 1) = true then [] else ordF n r (s ++ [(i : Int) + 1])
/-- .. of which the next is at most k. -/
def ordP (n r : Nat) (s : List Int) (k : Nat) : List (List Int) := (List.range k).flatMap fun (i : Nat) => if hasB s ((i : Int) + 1) = true then [] else ordF n r (s ++ [(i : Int) + 1])
theorem ordP_succ (n r : Nat) (s : List Int) (k : Nat) : ordP n r s (k + 1) = ordP n r s k ++ (if hasB s ((k : Int) + 1) = true then [] else ordF n r (s ++ [(k : Int) + 1])) := by
  unfold ordP; rw [List.range_succ, List.flatMap_append]; simp
theorem flatMap_le {α β : Type} (f : α → List β) (c : Nat) : ∀ l : List α, (∀ x ∈ l, (f x).length ≤ c) → (l.flatMap f).length ≤ l.length * c
  | [], _ => by simp
  | x :: l, h => by
    have h1 := h x (by simp)
    have h2 := flatMap_le f c l fun y hy => h y (by simp [hy])
    simp only [List.flatMap_cons, List.length_append, List.length_cons]
    rw [Nat.succ_mul]; omega
theorem ordF_le (n : Nat) : ∀ (r : Nat) (s : List Int), (ordF n r s).length ≤ n ^ r
  | 0, s => by simp [ordF]
  | r + 1, s => by
    unfold ordF
    refine Nat.le_trans (flatMap_le _ (n ^ r) _ fun i _ => ?_) ?_
    · split
      · simp
      · exact ordF_le n r _
    · rw [List.length_range, Nat.pow_succ, Nat.mul_comm]
      exact Nat.mul_le_mul_left _ (by omega)
theorem ordP_le (n r : Nat) (s : List Int) (k : Nat) : (ordP n r s k).length ≤ k * n ^ r := by
  unfold ordP
  refine Nat.le_trans (flatMap_le _ (n ^ r) _ fun i _ => ?_) (by rw [List.length_range]; exact Nat.le_refl _)
  split
  · simp
  · exact ordF_le n r _
/-- It returned the longer list. -/
def MkMaps (w : World) (l : List (List Int)) (F G : Nat → Prop) (e : Ending) (w' : World) : Prop := ∃ v, e = .returned v ∧ E2 w' v l (fun b => G b ∨ F b ∨ (w.heap.size ≤ b ∧ b < w'.heap.size)) ∧ Wr w w' G
theorem E1.slN {w : World} {A : Option Addr} {n c : Nat} {xs : List Int} {fp : Nat → Prop} (h : E1 w (.slice A n c) xs fp) : Sl w w.heap.size A n c xs := by
  obtain ⟨A', c', e, hs⟩ := h.sl
  cases e; exact hs
set_option maxHeartbeats 8000000 in
theorem orders_any (n : Nat) (hn1 : 1 ≤ n) (hn : n ≤ 16) : ∀ (r : Nat) (w : World) (B0 : Nat) (v vo : Value) (pre : List Int) (outL : List (List Int)) (F G : Nat → Prop),
    B0 ≤ w.heap.size → E1 w v pre F → E2 w vo outL G → (∀ b, F b → ¬ G b ∧ B0 ≤ b) → (∀ b, G b → B0 ≤ b) →
    pre.length + r = n → outL.length + n ^ r ≤ 1000000 →
    Calls Try.prog 11 #[.int .i64 n, v, vo] w (MkMaps w (outL ++ ordF n r pre) F G) := by
  intro r
  induction r with
  | zero =>
    intro w B0 v vo pre outL F G hB0 he ho hFG hG0 hl hlen
    obtain ⟨A3, c3, rfl, h3⟩ := he.sl
    obtain ⟨A4, c4, rfl, _⟩ := OwL.rd (P := fun _ _ => True) ho fun _ _ _ _ => trivial
    have hpl : pre.length = n := by omega
    rw [hpl] at h3 he ⊢
    have hR := hide (show outL ++ ordF n 0 pre = outL ++ [pre] from rfl)
    have hm1 : outL.length ≤ 1048576 := by omega
    have hbF := he.bd
    have hbG := ho.bd
    clear h3
    go_enter Try.func11, Try.ntmps11
    go_wp2_with (at_builtin; refine list_pushF kp1 33 35 _ 24 Try.underlying33 rows_info (by omega) rfl _ rfl _ _ rfl _ _ _ rfl (OwL.bel kp1 ho ((Below.refl _ _).alloc (Nat.le_refl _) _)) _ pre F (he.below ((Below.refl _ _).alloc (Nat.le_refl _) _)) (fun b hb => by have := hbF b hb; simp; omega) (fun b hb => (hFG b hb).1) rfl w.heap.size _ rfl (Blk.new _ _ _) hm1 (by simp) ?_; intro gg cap w8 hP hg8 hgg hg9)
    have hWr : Wr w w8 G := (Wr.of_below ((Below.refl _ _).alloc (Nat.le_refl _) _)).trans (Wr.of_grown hg8 fun b hb => ho.fp_ b hb)
    have hs8 := hWr.size
    have f1 : ∀ b, (G b ∨ F b ∨ b = gg) → (G b ∨ F b ∨ (w.heap.size ≤ b ∧ b < w8.heap.size)) := fun b hb => by
      rcases hb with hb | hb | rfl
      · exact .inl hb
      · exact .inr (.inl hb)
      · rcases hgg with hgg | hgg
        · exact .inl (ho.fp_ _ hgg)
        · exact .inr (.inr ⟨by omega, hg9⟩)
    have f2 : ∀ b, (G b ∨ F b ∨ (w.heap.size ≤ b ∧ b < w8.heap.size)) → b < w8.heap.size := fun b hb => by
      rcases hb with hb | hb | hb
      · exact Nat.lt_of_lt_of_le (hbG b hb) hs8
      · exact Nat.lt_of_lt_of_le (hbF b hb) hs8
      · exact hb.2
    have hq := OwL.mono hP f1 f2
    go_ret
    exact ⟨_, rfl, by rw [hR.out]; exact hq, hWr⟩
  | succ r ih =>
    intro w B0 v vo pre outL F G hB0 he ho hFG hG0 hl hlen
    obtain ⟨A3, c3, rfl, h3⟩ := he.sl
    obtain ⟨A4, c4, rfl, _⟩ := OwL.rd (P := fun _ _ => True) ho fun _ _ _ _ => trivial
    obtain ⟨p, hp⟩ : ∃ p, pre.length = p := ⟨_, rfl⟩
    have HP := hide hp
    rw [hp] at h3 he hl ⊢
    have hne : ((p : Int) == (n : Int)) = false := by rw [beq_eq_false_iff_ne]; omega
    have hbF := he.bd
    have hbG := ho.bd
    have ho3 := OwL.mono ho (fun b hb => Or.inl hb : ∀ b, G b → (G b ∨ (w.heap.size ≤ b ∧ b < w.heap.size))) (fun b hb => by rcases hb with hb | hb; exact hbG b hb; exact hb.2)
    have hW3 : Wr w w G := Wr.refl _ _
    have hp0 := hide (show ordP n r pre 0 = [] from rfl)
    have hAll := hide (show outL ++ ordF n (r + 1) pre = outL ++ ordP n r pre (n - 1) from rfl)
    have hp16 : p ≤ 16 := by omega
    have HLEN := hide hlen
    have hlp : pre.length + 1 + r = n := by omega
    have HLP := hide hlp
    clear hp hlen hl hlp h3
    go_enter Try.func11, Try.ntmps11
    go_wp2_with fail
    go_loopw [2, 7] (fun vo' y wr => ∃ j : Nat, j + 1 ≤ n ∧ y = .int .i64 (j + 1 : Nat) ∧ E2 wr vo' (outL ++ ordP n r pre j) (fun b => G b ∨ (w.heap.size ≤ b ∧ b < wr.heap.size)) ∧ Wr w wr G) (fun _ y _ => n - (intOf y).toNat)
    case atStart => exact ⟨0, by omega, rfl, by rw [hp0.out, List.append_nil]; exact ho3, hW3⟩
    case round =>
      clear ho3 hW3
      obtain ⟨j, hj, rfl, hoj, hWj⟩ := hrel
      have hBj := hWj.below hG0 hB0
      have hsj := hBj.size
      have hswj := hWj.size
      have hej := kp1 _ _ _ _ _ he (fun b hb => hWj.block b (hbF b hb) (hFG b hb).1) hWj.size
      have h3j := hej.slN
      have HS := hide (ordP_succ n r pre j)
      by_cases hlt : j + 1 < n
      · have hH := hide (l01Has_any wr wr.heap.size A3 p c3 pre ((j + 1 : Nat) : Int) h3j (by omega))
        rw [show ((j + 1 : Nat) : Int) = (j : Int) + 1 by omega] at hH
        obtain ⟨hb, hhb⟩ : ∃ b, hasB pre ((j : Int) + 1) = b := ⟨_, rfl⟩
        rw [hhb] at hH HS
        have hji : (j : Int) + 1 < n := by omega
        clear hhb
        go_wp2_with fail
        refine hH.out.mono ?_
        rintro e w2 ⟨rfl, d, rfl⟩
        have hb2 : Below wr.heap.size wr (wr.drewN d) := below_drewN (Below.refl _ _) d
        have ho2 := OwL.bel kp1 hoj hb2
        have he2 := hej.below hb2
        have hW2 := hWj.trans (Wr.of_below hb2)
        obtain ⟨W2, hW2e⟩ : ∃ W2, wr.drewN d = W2 := ⟨_, rfl⟩
        have hs2 : W2.heap.size = wr.heap.size := by rw [← hW2e]; rfl
        rw [hW2e] at hb2 ho2 he2 hW2 ⊢
        clear hW2e hH
        cases hb with
        | true =>
          have HSn := hide (show ordP n r pre (j + 1) = ordP n r pre j by rw [HS.out]; simp)
          go_wp2_with fail
          go_roundw
          case rel => exact ⟨j + 1, by omega, by go_num, by rw [HSn.out, hs2]; exact ho2, hW2⟩
          case measure => simp [intOf] <;> omega
        | false =>
          have HSy := hide (show ordP n r pre (j + 1) = ordP n r pre j ++ ordF n r (pre ++ [(j : Int) + 1]) by rw [HS.out]; simp)
          have h32 := he2.slN
          have hOw := hide (l01Own_any W2 W2.heap.size A3 p c3 pre h32 (Nat.le_refl _) (by omega))
          go_wp2_with fail
          refine hOw.out.mono ?_
          rintro e w4 ⟨v4, rfl, hO4, hb4⟩
          have hs4 := hb4.size
          go_wp2_with (at_builtin; refine list_push _ rfl _ _ rfl W2.heap.size _ pre rfl (hO4.alloc _) ((j : Int) + 1) w4.heap.size _ rfl (Blk.new _ _ _) (by rw [HP.out]; omega) (by simp; omega) (by simp) ?_; intro g cap w5 hP5)
          have hO5 := hP5.own
          have hb5 := ((hb4.alloc (by omega) (.cells #[.int .i64 ((j : Int) + 1)] 2)).trans (hP5.below (hO4.alloc _) (by simp; omega)))
          have hs5 := hb5.size
          have hpr : ∀ y ∈ pre ++ [(j : Int) + 1], i64ok y := fun y hy => by
            rcases List.mem_append.1 hy with hy | hy
            · exact he.rng y hy
            · rw [List.mem_singleton.1 hy]; exact ⟨by omega, by omega⟩
          have hE5 : E1 w5 _ (pre ++ [(j : Int) + 1]) (fun b => W2.heap.size ≤ b ∧ b < w5.heap.size) := E1.of_owr hO5 hpr
          have ho5 := OwL.bel kp1 ho2 (hb5.mono (by omega))
          have hW5 : Wr w w5 G := hW2.trans (Wr.of_below hb5)
          have g1 : ∀ b, (W2.heap.size ≤ b ∧ b < w5.heap.size) → ¬ (G b ∨ (w.heap.size ≤ b ∧ b < wr.heap.size)) ∧ B0 ≤ b := fun b hb => ⟨fun hh => by rcases hh with hh | hh; (have := hbG b hh; omega); omega, by omega⟩
          have g2 : ∀ b, (G b ∨ (w.heap.size ≤ b ∧ b < wr.heap.size)) → B0 ≤ b := fun b hb => by rcases hb with hb | hb; exact hG0 b hb; omega
          have g3 : (pre ++ [(j : Int) + 1]).length + r = n := by rw [List.length_append, List.length_singleton]; exact HLP.out
          have g4 : (outL ++ ordP n r pre j).length + n ^ r ≤ 1000000 := by
            rw [List.length_append]
            have h1 := ordP_le n r pre j
            have h2 : j * n ^ r + n ^ r ≤ n ^ (r + 1) := by
              rw [Nat.pow_succ, ← Nat.succ_mul, Nat.mul_comm]
              exact Nat.mul_le_mul_left _ (by omega)
            have := HLEN.out; omega
          have hIH := ih w5 B0 _ u2 (pre ++ [(j : Int) + 1]) (outL ++ ordP n r pre j) _ (fun b => G b ∨ (w.heap.size ≤ b ∧ b < wr.heap.size)) (by omega) hE5 ho5 g1 g2 g3 g4
          rw [List.append_assoc, ← HSy.out] at hIH
          have HIH := hide hIH
          clear hIH g1 g2 g3 g4 ho5 hE5 hpr hO5 hP5 hO4
          refine HIH.out.mono ?_
          rintro e w9 ⟨v9, rfl, hE9, hW9⟩
          have hz9 := hW9.size
          have hWz : Wr w w9 G := ⟨hW9.os.trans hW5.os, hW9.tape.trans hW5.tape, hW9.output.trans hW5.output, by omega, fun b hb hn => (hW9.block b (by omega) (fun hh => by rcases hh with hh | hh; exact hn hh; omega)).trans (hW5.block b hb hn)⟩
          have hE9' := OwL.mono hE9 (fun b hb => (by rcases hb with (hb | hb) | hb | hb; exact .inl hb; exact .inr ⟨hb.1, by omega⟩; exact .inr ⟨by omega, by omega⟩; exact .inr ⟨by omega, hb.2⟩ : G b ∨ (w.heap.size ≤ b ∧ b < w9.heap.size))) (fun b hb => by rcases hb with hb | hb; (have := hbG b hb; omega); exact hb.2)
          clear hE9
          go_wp2_with fail
          go_roundw
          case rel => exact ⟨j + 1, by omega, by go_num, hE9', hWz⟩
          case measure => simp [intOf] <;> omega
      · have hji : ¬ (j : Int) + 1 < n := by omega
        have hjn : j = n - 1 := by omega
        have hPo := hide (show MkMaps w (outL ++ ordF n (r + 1) pre) F G (.returned u2) wr from ⟨u2, rfl, by
          rw [hAll.out, ← hjn]
          exact OwL.mono hoj (fun b hb => (by rcases hb with hb | hb; exact .inl hb; exact .inr (.inr hb) : G b ∨ F b ∨ (w.heap.size ≤ b ∧ b < wr.heap.size))) (fun b hb => by rcases hb with hb | hb | hb; (have := hbG b hb; omega); (have := hbF b hb; omega); exact hb.2), hWj⟩)
        clear hoj
        go_wp2_with fail
        go_ret
        exact hPo.out
end Go.Proofs.Yteobaodabjdcaaa
