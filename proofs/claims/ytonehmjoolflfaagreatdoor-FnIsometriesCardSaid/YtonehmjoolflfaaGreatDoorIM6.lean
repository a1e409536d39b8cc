
/- The walk of l10Maps. -/
import Derived.Test.YtonehmjoolflfaaGreatDoorIMb
import Derived.Test.YtonehmjoolflfaaGreatDoorNa
import Derived.Test.YtonehmjoolflfaaGreatDoorOra
import Derived.Deep.DeepCutAuto
namespace Go.Proofs.YtonehmjoolflfaaGreatDoor
open Go Go.RowKit Grp
set_option linter.unusedSimpArgs false
set_option linter.unusedVariables false
set_option maxRecDepth 100000
theorem list_pushF {α : Type} {E : Own α} (hE : Kp E) {ops : Array Oper} {rest : List Oper} {o : Oper} {a : Act} {Q : Exit → Act → World → Prop} (st t : TypeId) (z : Value) (bytes : Nat) (hu : Tryz.prog.underlying st = some (.slice t)) (hinfo : (Tryz.prog.info? t).map (fun i => (i.zero, i.size, i.bytes)) = some (some z, 1, bytes)) (hby : bytes ≤ 24) (hzc : z.cells = #[z])
    (w : World) (hgd : o.guard = none) (s x : Operand) (ho : o.op = .call { callee := .builtin .append, args := #[s, x], argTypes := #[st, st] })
    (v : Value) (xs : List α) (fp : Nat → Prop) (hs : a.eval s = v) (hL : OwL E t w v xs fp) (u : Value) (e : α) (fu : Nat → Prop) (he : E w u e fu) (hfu : ∀ b, fu b → b < w.heap.size) (hd : ∀ b, fu b → ¬ fp b) (hu1 : u.oneCell' = true)
    (H T : Nat) (hx : a.eval x = .slice (some ⟨H, 0, none⟩) 1 1) (hb : Blk w H T #[u]) (hn : xs.length ≤ 1073741824) (hH : w.heap.size = H + 1)
    (h : ∀ g cap w', OwL E t w' (.slice (some ⟨g, 0, none⟩) (xs.length + 1) cap) (xs ++ [e]) (fun b => fp b ∨ fu b ∨ b = g) → w.grownBy w' v.ownBlock → (v.ownBlock = some g ∨ g = H + 1) → g < w'.heap.size → wpList Tryz.prog ops Q rest (a.put o.dst (.slice (some ⟨g, 0, none⟩) (xs.length + 1) cap)) w') :
    wpList Tryz.prog ops Q (o :: rest) a w := by
  obtain ⟨us, F, h1⟩ := hL.open_
  have hl := h1.len
  refine list_pushV st t z bytes hu hinfo hby hzc w hgd s x ho 0 v us hs h1.row u hu1 H T hx hb (by omega) (Nat.zero_le _) hH ?_
  intro g cap w' hP
  have h4 := OwU.push hE h1 he hd hfu hH hP
  rw [hl]
  obtain ⟨p1, p2, p3, p4⟩ := hP
  exact h g cap w' h4 p2 p3 p4
theorem wp_region_btc {P : Program} {ops : Array Oper} {Q : Exit → Act → World → Prop} {id : Nat} {a : Act} {w : World} (t : Ot) (z : Nat) (B : Nat) (W : World) (hm : P.follows .mixedOrders = true) (hs : Region.noSelect ops = true)
    (hok : okTc .any ops z ops.size t (Array.replicate ops.size false) = true)
    (hQ : ∀ c a d v w, Q (.panic c) (Act.put a (some d) v) w → Q (.panic c) a w) (hS : Below B W w) (h : ∀ wd, Below B W wd → OrdT P ops Q (Below B W) z t a wd) : (Code.region id ops true).wp P Q a w :=
  wp_region_otc t z (Below B W) hm hs hok hQ hS.drew (h _ hS.drew)
theorem wp_pushN {o : Oper} {a : Act} {K : Act → World → Prop} {Q : Exit → Act → World → Prop} (w : World) (s x : Operand)
    (ho : o.op = .call { callee := .builtin .append, args := #[s, x], argTypes := #[24, 24] })
    (B : Nat) (v : Value) (xs : List Int) (hs : a.eval s = v) (hown : Ow w B v xs) (y : Int) (H T N : Nat) (hx : a.eval x = .slice (some ⟨H, 0, none⟩) 1 1) (hb : Blk w H T #[.int .i64 y])
    (hn : xs.length ≤ 1073741824) (hB : B ≤ w.heap.size) (hH : w.heap.size = N + 1)
    (h : ∀ g cap w', Pushed w B v xs y N g cap w' → K (a.put o.dst (.slice (some ⟨g, 0, none⟩) (xs.length + 1) cap)) w') : o.wp Tryz.prog a w K Q := by
  obtain ⟨i0, hi0, hz0, hz1, hz2⟩ := info_parts int_info
  refine wp_append_lies w s x _ ho B 2 i0 _ 1 8 Tryz.underlying24 hi0 hz0 hz1 hz2 rfl (by omega) v xs.length _ hs hown ⟨H, 0, none⟩ 1 1 [.int .i64 y] hx rfl
    (World.news_of_block (cs := #[.int .i64 y]) hb) (by simp [Value.oneCell']) (by omega) (by unfold maxLen; omega) (by omega) hB (N + 1) hH ?_
  intro g cap w' h2 h3 h4 h5
  refine h g cap w' ⟨?_, h3, h4, h5⟩
  unfold Ow
  simpa using h2
/-- All, or the first one alone. -/
def tk (first : Bool) (l : List (List Int)) : List (List Int) := if first = true then l.take 1 else l
theorem tk_skip {first : Bool} {l x : List (List Int)} (h : (!first || (tk first l).isEmpty) = false) : tk first (l ++ x) = tk first l := by
  cases first with
  | false => cases h
  | true =>
    cases l with
    | nil => cases h
    | cons a r => rfl
theorem tk_go {first : Bool} {l x : List (List Int)} (h : (!first || (tk first l).isEmpty) = true) : tk first (l ++ x) = tk first l ++ tk first x := by
  cases first with
  | false => rfl
  | true =>
    cases l with
    | nil => rfl
    | cons a r => cases h
theorem tk_le (first : Bool) (l : List (List Int)) : (tk first l).length ≤ l.length := by
  unfold tk; split
  · rw [List.length_take]; omega
  · exact Nat.le_refl _
/-- The tuple of a generator is its element. -/
theorem elR_zero : ∀ r : List Int, elR r (List.replicate r.length 0) = 0 := by
  intro r
  induction r with
  | nil => rfl
  | cons m r ih => simp [List.replicate_succ, elR, ih]
theorem elR_unit : ∀ (r : List Int) (p : Nat), p < r.length → elR r ((List.replicate r.length 0).set p 1) = prodL (r.take p) := by
  intro r
  induction r with
  | nil => intro p h; simp at h
  | cons m r ih =>
    intro p h
    cases p with
    | zero => simp [List.replicate_succ, elR, elR_zero, prodL]
    | succ p =>
      have := ih p (by simpa using h)
      simp [List.replicate_succ, elR, this, prodL]
theorem el_unit (os : List Int) (i : Nat) (h : i < os.length) : elR os.reverse ((List.replicate os.length (0 : Int)).set i 1).reverse = prodL (os.drop (i + 1)) := by
  have e : ((List.replicate os.length (0 : Int)).set i 1).reverse = (List.replicate os.reverse.length (0 : Int)).set (os.length - 1 - i) 1 := by
    apply List.ext_getElem?
    intro k
    by_cases hk : k < os.length
    · rw [List.getElem?_reverse (by simpa using hk), List.getElem?_set, List.getElem?_set]
      simp only [List.length_set, List.length_replicate, List.length_reverse]
      by_cases e : i = os.length - 1 - k
      · rw [if_pos e, if_pos (by omega), if_pos (by omega), if_pos (by omega)]
      · rw [if_neg e, if_neg (by omega), List.getElem?_replicate, List.getElem?_replicate, if_pos (by omega), if_pos (by omega)]
    · rw [List.getElem?_eq_none (by simp; omega), List.getElem?_eq_none (by simp; omega)]
  rw [e, elR_unit _ _ (by simp; omega)]
  have e2 : os.reverse.take (os.length - 1 - i) = (os.drop (i + 1)).reverse := by
    rw [List.reverse_drop]
    congr 1; omega
  rw [e2, prodL_reverse]
theorem Two.part_le (T : Two) (hN : T.N ≤ 16) (k : Nat) (pre : List Int) (j : Nat) : (T.part k pre j).length ≤ j * 16 ^ k := by
  unfold Two.part
  refine Nat.le_trans (Two.flat_le (16 ^ k) _ _ fun y _ => T.isos_many hN k _) ?_
  refine Nat.mul_le_mul_right _ (Nat.le_trans (List.length_filter_le _ _) ?_)
  simp
/-- It returned the longer list. -/
def MkMaps (w : World) (l : List (List Int)) (F G : Nat → Prop) (e : Ending) (w' : World) : Prop := ∃ v, e = .returned v ∧ E2 w' v l (fun b => G b ∨ F b ∨ (w.heap.size ≤ b ∧ b < w'.heap.size)) ∧ Wr w w' G
theorem E1.of_ow6 {w : World} {B : Nat} {v : Value} {xs : List Int} (h : Ow w B v xs) (hr : ∀ x ∈ xs, i64ok x) : E1 w v xs (fun b => B ≤ b ∧ b < w.heap.size) := ⟨h.less (Nat.zero_le _), hr, fun b hb => h.lt b hb, fun b hb => hb.2⟩
theorem E1.slN {w : World} {A : Option Addr} {n c : Nat} {xs : List Int} {fp : Nat → Prop} (h : E1 w (.slice A n c) xs fp) : Sl w w.heap.size A n c xs := by
  obtain ⟨A', c', e, hs⟩ := h.sl
  cases e; exact hs
set_option maxHeartbeats 8000000 in
theorem l10Maps_any {T : Two} (hT : TwoOk T) (first : Bool) : ∀ (r : Nat) (w : World) (B0 : Nat) (A : Option Addr) (n c : Nat) (B : Option Addr) (m k : Nat) (A2 : Option Addr) (n2 c2 : Nat) (B2 : Option Addr) (m2 k2 : Nat) (v vo : Value) (pre : List Int) (outL : List (List Int)) (F G : Nat → Prop),
    Sl w B0 A n c T.os → Sl w B0 B m k T.vs → Sl w B0 A2 n2 c2 T.ps → Sl w B0 B2 m2 k2 T.us → B0 ≤ w.heap.size → E1 w v pre F → E2 w vo outL G → (∀ b, F b → ¬ G b ∧ B0 ≤ b) → (∀ b, G b → B0 ≤ b) →
    (first = true → outL = []) → pre.length + r = T.os.length → (∀ y ∈ pre, 0 ≤ y ∧ y < T.us.length) → outL.length + 16 ^ r ≤ 1000000 →
    Calls Tryz.prog 70 #[.agg #[.slice A n c, .int .i64 T.D, .slice B m k], .agg #[.slice A2 n2 c2, .int .i64 T.E, .slice B2 m2 k2], v, .bool first, vo] w (MkMaps w (outL ++ tk first (T.isos r pre)) F G) := by
  intro r
  induction r with
  | zero =>
    intro w B0 A n c B m k A2 n2 c2 B2 m2 k2 v vo pre outL F G h h' g g' hB0 he ho hFG hG0 hfo hl hi hlen
    obtain ⟨A3, c3, rfl, h3⟩ := he.sl
    obtain ⟨A4, c4, rfl, _⟩ := OwL.rd (P := fun _ _ => True) ho fun _ _ _ _ => trivial
    obtain ⟨L, hL⟩ : ∃ L, T.os.length = L := ⟨_, rfl⟩
    have hn := h.len
    rw [hL] at hn hl
    subst hn
    have hpl : pre.length = L := by omega
    rw [hpl] at h3 he ⊢
    go_enter Tryz.func70, Tryz.ntmps70
    go_wp2_with fail
    have hB1 : Below w.heap.size w ((w.alloc (.cells #[.slice A L c, .int .i64 T.D, .slice B m k] 26)).alloc (.cells #[.slice A2 n2 c2, .int .i64 T.E, .slice B2 m2 k2] 26)) := (by repeat (first | assumption | exact Below.refl _ _ | apply below_drewN | apply Below.drew | apply Below.alloc | apply Below.setCell | omega | (focus (simp; done)) | (focus (simp; omega))))
    obtain ⟨w1, hw1⟩ : ∃ w1, (w.alloc (.cells #[.slice A L c, .int .i64 T.D, .slice B m k] 26)).alloc (.cells #[.slice A2 n2 c2, .int .i64 T.E, .slice B2 m2 k2] 26) = w1 := ⟨_, rfl⟩
    rw [hw1] at hB1 ⊢
    clear hw1
    have hs1 := hB1.size
    have hb0 := hB1.mono hB0
    have hI := hide (l10Isometry_any w1 T hT A L c B m k A2 n2 c2 B2 m2 k2 A3 L c3 pre ((h.below hb0).more (by omega)) ((h'.below hb0).more (by omega)) ((g.below hb0).more (by omega)) ((g'.below hb0).more (by omega)) ((h3.below hB1).more hs1) (by omega) hi)
    have hR := hide (show outL ++ tk first (T.isos 0 pre) = if T.iso pre = true then outL ++ [pre] else outL by
      unfold Two.isos
      cases T.iso pre with
      | true => simp [tk]
      | false => simp [tk])
    obtain ⟨is, his⟩ : ∃ b, T.iso pre = b := ⟨_, rfl⟩
    rw [his] at hI hR
    clear his h3
    refine hI.out.mono ?_
    rintro e w2 ⟨rfl, hb2⟩
    have hB2 := hB1.trans (hb2.mono hs1)
    have he2 := he.below hB2
    have ho2 := OwL.bel kp1 ho hB2
    have hs2 := hB2.size
    have hbF := he.bd
    have hbG := ho.bd
    cases is with
    | false =>
      go_wp2_with fail
      go_ret
      exact ⟨_, rfl, by rw [hR.out]; exact OwL.mono ho2 (fun b hb => .inl hb) (fun b hb => by rcases hb with hb | hb | hb; exact Nat.lt_of_lt_of_le (hbG b hb) hs2; exact Nat.lt_of_lt_of_le (hbF b hb) hs2; exact hb.2), Wr.of_below hB2⟩
    | true =>
      have hm1 : outL.length ≤ 1073741824 := by omega
      go_wp2_with (at_builtin; refine list_pushF kp1 50 24 _ 24 Tryz.underlying50 rows_info (by omega) rfl _ rfl _ _ rfl _ _ _ rfl (OwL.bel kp1 ho2 ((Below.refl _ _).alloc (Nat.le_refl _) _)) _ pre F (he2.below ((Below.refl _ _).alloc (Nat.le_refl _) _)) (fun b hb => by have := hbF b hb; simp; omega) (fun b hb => (hFG b hb).1) rfl w2.heap.size _ rfl (Blk.new _ _ _) hm1 (by simp) ?_; intro gg cap w8 hP hg8 hgg hg9)
      have hWr : Wr w w8 G := (Wr.of_below (hB2.alloc hs2 _)).trans (Wr.of_grown hg8 fun b hb => ho.fp_ b hb)
      have hs8 := hWr.size
      have hsg := hg8.size
      have f1 : ∀ b, (G b ∨ F b ∨ b = gg) → (G b ∨ F b ∨ (w.heap.size ≤ b ∧ b < w8.heap.size)) := fun b hb => by
        rcases hb with hb | hb | rfl
        · exact .inl hb
        · exact .inr (.inl hb)
        · rcases hgg with hgg | hgg
          · exact .inl (ho.fp_ _ hgg)
          · exact .inr (.inr ⟨by omega, hg9⟩)
      have f2 : ∀ b, (G b ∨ F b ∨ (w.heap.size ≤ b ∧ b < w8.heap.size)) → b < w8.heap.size := fun b hb => by
        rcases hb with hb | hb | hb
        · exact Nat.lt_of_lt_of_le (hbG b hb) hs8
        · exact Nat.lt_of_lt_of_le (hbF b hb) hs8
        · exact hb.2
      have hq := OwL.mono hP f1 f2
      go_ret
      exact ⟨_, rfl, by rw [hR.out]; exact hq, hWr⟩
  | succ r ih =>
    intro w B0 A n c B m k A2 n2 c2 B2 m2 k2 v vo pre outL F G h h' g g' hB0 he ho hFG hG0 hfo hl hi hlen
    obtain ⟨i0, hi0, hz0, hz1, hz2⟩ := info_parts int_info
    have h16 := hT.n16
    have hD1 := hT.M.ok.d1
    have hD2 := hT.M.ok.d2
    have hE1 := hT.N.ok.d1
    have hE2 := hT.N.ok.d2
    have hOs := hT.M.ok.g
    have hPs := hT.N.ok.g
    have hos4 := hOs.l4
    obtain ⟨A3, c3, rfl, h3⟩ := he.sl
    obtain ⟨A4, c4, rfl, _⟩ := OwL.rd (P := fun _ _ => True) ho fun _ _ _ _ => trivial
    obtain ⟨L, hL⟩ : ∃ L, T.os.length = L := ⟨_, rfl⟩
    obtain ⟨p, hp⟩ : ∃ p, pre.length = p := ⟨_, rfl⟩
    have hn := h.len
    rw [hL] at hn hl hos4
    subst hn
    have HL := hide hL
    have HP := hide hp
    rw [hp] at h3 he hl ⊢
    have hpL : p < L := by omega
    have hpi : (p : Int) < (L : Int) := by omega
    have hp0 : (0 : Int) ≤ (p : Int) := by omega
    have hne : ((p : Int) == (L : Int)) = false := by rw [beq_eq_false_iff_ne]; omega
    have hmk := fun W => run_make (P := Tryz.prog) (w := W) 24 2 i0 (.int .i64 0) Tryz.underlying24 hi0 hz0 .i64 .i64 L L (by omega) (by omega) (by rw [hz2]; omega) (by omega)
    simp only [hz1, Int.toNat_natCast, Nat.mul_one] at hmk
    clear hL hp
    obtain ⟨W1, hW1⟩ : ∃ W1, ((w.alloc (.cells #[.slice A L c, .int .i64 T.D, .slice B m k] 26)).alloc (.cells #[.slice A2 n2 c2, .int .i64 T.E, .slice B2 m2 k2] 26)).alloc (.cells (madeCells #[.int .i64 0] L) 2) = W1 := ⟨_, rfl⟩
    have hB1 : Below w.heap.size w W1 := by rw [← hW1]; exact (by repeat (first | assumption | exact Below.refl _ _ | apply below_drewN | apply Below.drew | apply Below.alloc | apply Below.setCell | omega | (focus (simp; done)) | (focus (simp; omega))))
    have hz1 : w.heap.size + 3 = W1.heap.size := by rw [← hW1]; simp
    have bm1 : Blk W1 w.heap.size 26 #[.slice A L c, .int .i64 T.D, .slice B m k] := by rw [← hW1]; exact ((Blk.new _ _ _).alloc _).alloc _
    have bn1 : Blk W1 (w.heap.size + 1) 26 #[.slice A2 n2 c2, .int .i64 T.E, .slice B2 m2 k2] := by rw [← hW1]; exact (Blk.new' _ _ _ _ (by simp)).alloc _
    have hE1z : E1 W1 (.slice (some ⟨w.heap.size + 1 + 1, 0, none⟩) L L) (List.replicate L 0) (fun b => b = w.heap.size + 1 + 1) := by rw [← hW1]; exact E1.zeros _ L _ (by simp) (by unfold maxLen; omega)
    have hO1 := hE1z.own
    have hc1 : W1.cell? ⟨w.heap.size + 1 + 1, p, none⟩ = some (.int .i64 0) := by
      have := hO1.cell (by simp) (k := p) hpL
      rw [this]
      congr 2
      unfold gi; rw [List.getD_eq_getElem?_getD, List.getElem?_replicate, if_pos hpL]; rfl
    have hf1 := hO1.frozen (by simp) p
    obtain ⟨W2, hW2⟩ : ∃ W2, W1.setCell ⟨w.heap.size + 1 + 1, p, none⟩ (.int .i64 1) = W2 := ⟨_, rfl⟩
    have hO2 : Ow W2 0 (.slice (some ⟨w.heap.size + 1 + 1, 0, none⟩) L L) ((List.replicate L (0 : Int)).set p 1) := by rw [← hW2]; exact hO1.store (by simp) p 1
    have hB2 : Below w.heap.size w W2 := by rw [← hW2]; exact hB1.setCell (by show w.heap.size ≤ w.heap.size + 1 + 1; omega) _
    have hz2' : W1.heap.size = W2.heap.size := by rw [← hW2]; simp [World.setCell]
    have bm2 : Blk W2 w.heap.size 26 #[.slice A L c, .int .i64 T.D, .slice B m k] := by rw [← hW2]; exact bm1.far (by show w.heap.size ≠ w.heap.size + 1 + 1; omega) _
    have bn2 : Blk W2 (w.heap.size + 1) 26 #[.slice A2 n2 c2, .int .i64 T.E, .slice B2 m2 k2] := by rw [← hW2]; exact bn1.far (by show w.heap.size + 1 ≠ w.heap.size + 1 + 1; omega) _
    have r0 := bm1.cell 0
    have r1 := bm1.cell 1
    have r2 := bm1.cell 2
    have s0 := bm2.cell 0
    have s1 := bm2.cell 1
    have s2 := bm2.cell 2
    clear hE1z hO1
    have hgen := el_unit T.os p (by rw [HL.out]; exact hpL)
    rw [HL.out] at hgen
    have hul : ∀ j, j < L → 0 ≤ gi ((List.replicate L (0 : Int)).set p 1) j ∧ gi ((List.replicate L (0 : Int)).set p 1) j < gi T.os j := fun j hj => by
      have h2 := hOs.m2 _ (gi_mem (show j < T.os.length by rw [HL.out]; exact hj))
      have e : gi ((List.replicate L (0 : Int)).set p 1) j = if p = j then 1 else 0 := by
        unfold gi
        rw [List.getD_eq_getElem?_getD, List.getElem?_set, List.getElem?_replicate, if_pos hj, List.length_replicate]
        by_cases hpj : p = j
        · rw [if_pos hpj, if_pos (by omega), if_pos hpj]; rfl
        · rw [if_neg hpj, if_neg hpj]; rfl
      rw [e]
      split <;> omega
    have hur : ∀ y ∈ (List.replicate L (0 : Int)).set p 1, i64ok y := fun y hy => by
      rcases List.mem_or_eq_of_mem_set hy with hy | rfl
      · rw [(List.mem_replicate.1 hy).2]; exact ⟨by omega, by omega⟩
      · exact ⟨by omega, by omega⟩
    have hU : Sl W2 W2.heap.size (some ⟨w.heap.size + 1 + 1, 0, none⟩) L L ((List.replicate L (0 : Int)).set p 1) := by
      obtain ⟨A, c, e, hs⟩ := hO2.sl hur
      simp only [List.length_set, List.length_replicate] at e hs
      cases e; exact hs
    have hEl := hide (l10Element_any W2 W2.heap.size A L c T.os (some ⟨w.heap.size + 1 + 1, 0, none⟩) L _ ((h.below (hB2.mono hB0)).more (by have := hB2.size; omega)) hU hOs hul)
    rw [hgen] at hEl
    obtain ⟨x, hx⟩ : ∃ x : Nat, prodL (T.os.drop (p + 1)) = x := ⟨(prodL (T.os.drop (p + 1))).toNat, by have := (prodL_drop hOs (p + 1)).1; omega⟩
    have hgx : T.gen p = x := hx
    have hxN : x < T.vs.length := by
      have h1 : prodL (T.os.drop p) = gi T.os p * prodL (T.os.drop (p + 1)) := prodL_at (by rw [HL.out]; exact hpL)
      have h2 := hOs.m2 _ (gi_mem (show p < T.os.length by rw [HL.out]; exact hpL))
      have h3 : prodL T.os = prodL (T.os.take p) * prodL (T.os.drop p) := by rw [← prodL_append, List.take_append_drop]
      have h4 : 1 ≤ prodL (T.os.take p) := prodL_pos fun m hm => hOs.pos m (List.mem_of_mem_take hm)
      have h5 := (prodL_drop hOs p).1
      have h6 := (prodL_drop hOs (p + 1)).1
      have h7 : 1 * prodL (T.os.drop p) ≤ prodL (T.os.take p) * prodL (T.os.drop p) := Int.mul_le_mul_of_nonneg_right h4 (by omega)
      have h8 : 2 * prodL (T.os.drop (p + 1)) ≤ gi T.os p * prodL (T.os.drop (p + 1)) := Int.mul_le_mul_of_nonneg_right h2 (by omega)
      have h9 := hT.nos
      have h10 := hT.len
      omega
    rw [hx] at hEl
    have HGX := hide hgx
    clear hgen hul hur hU hx hgx hO2
    obtain ⟨N, hN⟩ : ∃ N, T.us.length = N := ⟨_, rfl⟩
    have HN := hide hN
    have hm2 := h'.len
    have hk2 := g'.len
    rw [hT.len] at hm2 hxN
    rw [hN] at hm2 hk2 hi h16 hxN
    subst hm2
    subst hk2
    clear hN
    go_enter Tryz.func70, Tryz.ntmps70
    go_wp2_with fail
    clear r0 r1 r2 s0 s1 s2 hc1 hf1 hW1 hW2 hmk
    refine hEl.out.mono ?_
    rintro e w3 ⟨rfl, d, rfl⟩
    obtain ⟨w3, hw3⟩ : ∃ w3, W2.drewN d = w3 := ⟨_, rfl⟩
    have bm3 := bm2.drewN d
    have bn3 := bn2.drewN d
    have hB3 : Below w.heap.size w (W2.drewN d) := below_drewN hB2 _
    have hz3 : (W2.drewN d).heap.size = W2.heap.size := rfl
    rw [hw3] at bm3 bn3 hB3 hz3 ⊢
    clear hw3 bm1 bm2 bn1 bn2 hB1 hB2 hEl
    have hlw : w.heap.size + 3 = w3.heap.size := by omega
    have hbF := he.bd
    have hbG := ho.bd
    have ho3 := OwL.mono (OwL.bel kp1 ho hB3) (fun b hb => Or.inl hb : ∀ b, G b → (G b ∨ (w3.heap.size ≤ b ∧ b < w3.heap.size))) (fun b hb => by rcases hb with hb | hb; exact Nat.lt_of_lt_of_le (hbG b hb) hB3.size; exact hb.2)
    have hW3 : Wr w w3 G := Wr.of_below hB3
    have hp0' := hide (show tk first (T.part r pre 0) = [] by rw [T.part_zero]; unfold tk; split <;> rfl)
    clear hz1 hz2' hz3
    go_wp2_with fail
    go_loopw [4, 14] (fun vo' y wr => ∃ j : Nat, j ≤ N ∧ y = .int .i64 j ∧ E2 wr vo' (outL ++ tk first (T.part r pre j)) (fun b => G b ∨ (w3.heap.size ≤ b ∧ b < wr.heap.size)) ∧ Wr w wr G ∧ w3.heap.size ≤ wr.heap.size ∧ Blk wr w.heap.size 26 #[.slice A L c, .int .i64 T.D, .slice B N k] ∧ Blk wr (w.heap.size + 1) 26 #[.slice A2 n2 c2, .int .i64 T.E, .slice B2 N k2]) (fun _ y _ => N - (intOf y).toNat)
    case atStart => exact ⟨0, by omega, rfl, by rw [hp0'.out, List.append_nil]; exact ho3, hW3, Nat.le_refl _, bm3, bn3⟩
    case round =>
      clear ho3 hW3 bm3 bn3
      obtain ⟨j, hj, rfl, hoj, hWj, hwj, bm, bn⟩ := hrel
      have hBj := hWj.below hG0 hB0
      have hsj := hBj.size
      have r0 := bm.cell 0
      have r1 := bm.cell 1
      have r2 := bm.cell 2
      have s0 := bn.cell 0
      have s1 := bn.cell 1
      have s2 := bn.cell 2
      have hlm := bm.lt
      have hln := bn.lt
      have hej := kp1 _ _ _ _ _ he (fun b hb => hWj.block b (hbF b hb) (hFG b hb).1) hWj.size
      by_cases hlt : j < N
      · have hjN : j < T.us.length := by rw [HN.out]; exact hlt
        have hOrd := hide (fun (W : World) (hW : Below B0 w W) (hs : B0 ≤ W.heap.size) => l10Order_any W A2 n2 c2 T.ps j ((g.below hW).more hs) hPs (by omega) (by rw [hT.nps]; omega))
        have hAlk := hide (fun (W : World) (hW : Below B0 w W) (hs : B0 ≤ W.heap.size) => l10Alike_any W (.slice A L c) T.D B N k T.vs (.slice A2 n2 c2) T.E B2 N k2 T.us x j ((h'.below hW).more hs) ((g'.below hW).more hs) ⟨hD1, hD2⟩ ⟨hE1, hE2⟩ (fun v hv => hT.M.ok.rng v hv) (fun v hv => hT.N.ok.rng v hv) (by rw [hT.len, HN.out]; exact hxN) hjN A L c rfl A2 n2 c2 rfl)
        have hpe : T.os.length - (r + 1) = p := by have := HL.out; omega
        have HC := hide (show T.cand (T.os.length - (r + 1)) j = ((ordN T.ps j == gi T.os p) && alB T.D T.E (gi T.vs x) (gi T.us j)) by
          rw [hpe]; unfold Two.cand; rw [HGX.out]; rfl)
        obtain ⟨ab, ao, rfl, hab0, hac⟩ := h.at_ (by omega)
        have hab : ab < wr.heap.size := by omega
        have cp := (hBj.cell (p := ⟨ab, ao + p, none⟩) hab0).trans (hac p hpL)
        have hLq : (outL ++ tk first (T.part r pre j)).length + 16 ^ r ≤ 1000000 := by
          have h1 := T.part_le (by unfold Two.N; rw [HN.out]; exact h16) r pre j
          have h2 := tk_le first (T.part r pre j)
          have h3 : (j + 1) * 16 ^ r ≤ 16 * 16 ^ r := Nat.mul_le_mul_right _ (by omega)
          rw [Nat.succ_mul] at h3
          rw [Nat.pow_succ] at hlen
          rw [List.length_append]; omega
        have HPj := hide (show (((ordN T.ps j == gi T.os p) && alB T.D T.E (gi T.vs x) (gi T.us j)) = false → T.part r pre (j + 1) = T.part r pre j) ∧ (((ordN T.ps j == gi T.os p) && alB T.D T.E (gi T.vs x) (gi T.us j)) = true → T.part r pre (j + 1) = T.part r pre j ++ T.isos r (pre ++ [(j : Int)])) from
          ⟨fun hh => T.part_no (by rw [HC.out]; exact hh), fun hh => T.part_yes (by rw [HC.out]; exact hh)⟩)
        obtain ⟨ov, hov⟩ : ∃ v, ordN T.ps j = v := ⟨_, rfl⟩
        obtain ⟨mv, hmv⟩ : ∃ v, gi T.os p = v := ⟨_, rfl⟩
        obtain ⟨al, hal⟩ : ∃ v, alB T.D T.E (gi T.vs x) (gi T.us j) = v := ⟨_, rfl⟩
        rw [hov] at hOrd HPj
        rw [hmv] at cp HPj
        rw [hal] at hAlk HPj
        obtain ⟨A5, c5, rfl, _⟩ := OwL.rd (P := fun _ _ => True) hoj fun _ _ _ _ => trivial
        obtain ⟨lq, hlq⟩ : ∃ n, (outL ++ tk first (T.part r pre j)).length = n := ⟨_, rfl⟩
        have HLQ := hide hlq
        rw [hlq] at hoj hLq ⊢
        clear hlq
        have hj0 : (0 : Int) ≤ (j : Int) := by omega
        clear hov hmv hal hac hpe HC
        go_wp2_with fail
        cases hc1 : (ov == mv) with
        | false =>
          rw [hc1] at HPj
          have HPn := hide (show tk first (T.part r pre (j + 1)) = tk first (T.part r pre j) by rw [HPj.out.1 rfl])
          clear HPj
          refine wp_region_be [0, 1, 2, 4, 5, 6, 7, 8, 3, 9, 10, 11, 12, 13, 14, 15, 16, 17, 18, 19, 20, 21, 22, 23, 24, 25] 26 wr.heap.size wr (by kernel_rfl) (by kernel_rfl) (by kernel_rfl) (fun _ _ _ _ _ h => h) (Below.refl _ _) (fun wd hBe => ?_)
          repeat (first | (apply ord_tk rfl (by rfl) (by rfl) (by rfl); (focus (intro wx hSw; have a0 := (hSw.cell (p := ⟨w.heap.size, 0, none⟩) hlm).trans r0; have a1 := (hSw.cell (p := ⟨w.heap.size, 1, none⟩) hlm).trans r1; have a2 := (hSw.cell (p := ⟨w.heap.size, 2, none⟩) hlm).trans r2; have a3 := (hSw.cell (p := ⟨w.heap.size + 1, 0, none⟩) hln).trans s0; have a4 := (hSw.cell (p := ⟨w.heap.size + 1, 1, none⟩) hln).trans s1; have a5 := (hSw.cell (p := ⟨w.heap.size + 1, 2, none⟩) hln).trans s2; have a6 := (hSw.cell (p := ⟨ab, ao + p, none⟩) hab).trans cp; go_simp; (try with_reducible rfl))); (try simp only [Act.put, List.setIfInBounds_toArray, List.set_cons_zero, List.set_cons_succ])) | (apply ord_skip rfl (by rfl) (by rfl) (fun _ => hBe); (try simp only [Act.put, List.setIfInBounds_toArray, List.set_cons_zero, List.set_cons_succ])))
          refine ord_do rfl (by rfl) (by rfl) (fun K hK => ?_)
          go_simp
          refine (hOrd.out _ (hBj.trans (hBe.mono (by omega))) (by have := hBe.size; omega)).mono ?_
          rintro e wd' ⟨rfl, hwd⟩
          replace hBe := hBe.trans (hwd.mono hBe.size)
          clear hwd
          refine hK.out _ _ (fun _ => hBe) ?_
          (try simp only [Act.put, List.setIfInBounds_toArray, List.set_cons_zero, List.set_cons_succ])
          clear hK K
          repeat (first | (apply ord_tk rfl (by rfl) (by rfl) (by rfl); (focus (intro wx hSw; have a0 := (hSw.cell (p := ⟨w.heap.size, 0, none⟩) hlm).trans r0; have a1 := (hSw.cell (p := ⟨w.heap.size, 1, none⟩) hlm).trans r1; have a2 := (hSw.cell (p := ⟨w.heap.size, 2, none⟩) hlm).trans r2; have a3 := (hSw.cell (p := ⟨w.heap.size + 1, 0, none⟩) hln).trans s0; have a4 := (hSw.cell (p := ⟨w.heap.size + 1, 1, none⟩) hln).trans s1; have a5 := (hSw.cell (p := ⟨w.heap.size + 1, 2, none⟩) hln).trans s2; have a6 := (hSw.cell (p := ⟨ab, ao + p, none⟩) hab).trans cp; go_simp; (try with_reducible rfl))); (try simp only [Act.put, List.setIfInBounds_toArray, List.set_cons_zero, List.set_cons_succ])) | (apply ord_skip rfl (by rfl) (by rfl) (fun _ => hBe); (try simp only [Act.put, List.setIfInBounds_toArray, List.set_cons_zero, List.set_cons_succ])))
          refine ord_nil ?_
          have hBf := hBe
          clear hBe
          have hz5 := hBf.size
          have hE5 := OwL.mono (OwL.bel kp1 hoj hBf) (fun b hb => (by rcases hb with hb | hb; exact .inl hb; exact .inr ⟨hb.1, by omega⟩ : G b ∨ (w3.heap.size ≤ b ∧ b < wd'.heap.size))) (fun b hb => by rcases hb with hb | hb; exact Nat.lt_of_lt_of_le (hbG b hb) (Nat.le_trans hWj.size hz5); exact hb.2)
          go_wp2_with fail
          go_roundw
          case rel => exact ⟨j + 1, by omega, by go_num, by rw [HPn.out]; exact hE5, hWj.trans (Wr.of_below hBf), by omega, bm.all hBf, bn.all hBf⟩
          case measure => simp [intOf] <;> omega
        | true =>
          rw [hc1, Bool.true_and] at HPj
          cases al with
          | false =>
            have HPn := hide (show tk first (T.part r pre (j + 1)) = tk first (T.part r pre j) by rw [HPj.out.1 rfl])
            clear HPj
            refine wp_region_be [0, 1, 2, 4, 5, 6, 7, 8, 3, 9, 10, 11, 12, 13, 14, 15, 16, 17, 18, 19, 20, 21, 22, 23, 24, 25] 26 wr.heap.size wr (by kernel_rfl) (by kernel_rfl) (by kernel_rfl) (fun _ _ _ _ _ h => h) (Below.refl _ _) (fun wd hBe => ?_)
            repeat (first | (apply ord_tk rfl (by rfl) (by rfl) (by rfl); (focus (intro wx hSw; have a0 := (hSw.cell (p := ⟨w.heap.size, 0, none⟩) hlm).trans r0; have a1 := (hSw.cell (p := ⟨w.heap.size, 1, none⟩) hlm).trans r1; have a2 := (hSw.cell (p := ⟨w.heap.size, 2, none⟩) hlm).trans r2; have a3 := (hSw.cell (p := ⟨w.heap.size + 1, 0, none⟩) hln).trans s0; have a4 := (hSw.cell (p := ⟨w.heap.size + 1, 1, none⟩) hln).trans s1; have a5 := (hSw.cell (p := ⟨w.heap.size + 1, 2, none⟩) hln).trans s2; have a6 := (hSw.cell (p := ⟨ab, ao + p, none⟩) hab).trans cp; go_simp; (try with_reducible rfl))); (try simp only [Act.put, List.setIfInBounds_toArray, List.set_cons_zero, List.set_cons_succ])) | (apply ord_skip rfl (by rfl) (by rfl) (fun _ => hBe); (try simp only [Act.put, List.setIfInBounds_toArray, List.set_cons_zero, List.set_cons_succ])))
            refine ord_do rfl (by rfl) (by rfl) (fun K hK => ?_)
            go_simp
            refine (hOrd.out _ (hBj.trans (hBe.mono (by omega))) (by have := hBe.size; omega)).mono ?_
            rintro e wd' ⟨rfl, hwd⟩
            replace hBe := hBe.trans (hwd.mono hBe.size)
            clear hwd
            refine hK.out _ _ (fun _ => hBe) ?_
            (try simp only [Act.put, List.setIfInBounds_toArray, List.set_cons_zero, List.set_cons_succ])
            clear hK K
            repeat (first | (apply ord_tk rfl (by rfl) (by rfl) (by rfl); (focus (intro wx hSw; have a0 := (hSw.cell (p := ⟨w.heap.size, 0, none⟩) hlm).trans r0; have a1 := (hSw.cell (p := ⟨w.heap.size, 1, none⟩) hlm).trans r1; have a2 := (hSw.cell (p := ⟨w.heap.size, 2, none⟩) hlm).trans r2; have a3 := (hSw.cell (p := ⟨w.heap.size + 1, 0, none⟩) hln).trans s0; have a4 := (hSw.cell (p := ⟨w.heap.size + 1, 1, none⟩) hln).trans s1; have a5 := (hSw.cell (p := ⟨w.heap.size + 1, 2, none⟩) hln).trans s2; have a6 := (hSw.cell (p := ⟨ab, ao + p, none⟩) hab).trans cp; go_simp; (try with_reducible rfl))); (try simp only [Act.put, List.setIfInBounds_toArray, List.set_cons_zero, List.set_cons_succ])) | (apply ord_skip rfl (by rfl) (by rfl) (fun _ => hBe); (try simp only [Act.put, List.setIfInBounds_toArray, List.set_cons_zero, List.set_cons_succ])))
            refine ord_do rfl (by rfl) (by rfl) (fun K hK => ?_)
            go_simp
            refine (hAlk.out _ (hBj.trans (hBe.mono (by omega))) (by have := hBe.size; omega)).mono ?_
            rintro e wd' ⟨rfl, hwd⟩
            replace hBe := hBe.trans (hwd.mono hBe.size)
            clear hwd
            refine hK.out _ _ (fun _ => hBe) ?_
            (try simp only [Act.put, List.setIfInBounds_toArray, List.set_cons_zero, List.set_cons_succ])
            clear hK K
            repeat (first | (apply ord_tk rfl (by rfl) (by rfl) (by rfl); (focus (intro wx hSw; have a0 := (hSw.cell (p := ⟨w.heap.size, 0, none⟩) hlm).trans r0; have a1 := (hSw.cell (p := ⟨w.heap.size, 1, none⟩) hlm).trans r1; have a2 := (hSw.cell (p := ⟨w.heap.size, 2, none⟩) hlm).trans r2; have a3 := (hSw.cell (p := ⟨w.heap.size + 1, 0, none⟩) hln).trans s0; have a4 := (hSw.cell (p := ⟨w.heap.size + 1, 1, none⟩) hln).trans s1; have a5 := (hSw.cell (p := ⟨w.heap.size + 1, 2, none⟩) hln).trans s2; have a6 := (hSw.cell (p := ⟨ab, ao + p, none⟩) hab).trans cp; go_simp; (try with_reducible rfl))); (try simp only [Act.put, List.setIfInBounds_toArray, List.set_cons_zero, List.set_cons_succ])) | (apply ord_skip rfl (by rfl) (by rfl) (fun _ => hBe); (try simp only [Act.put, List.setIfInBounds_toArray, List.set_cons_zero, List.set_cons_succ])))
            refine ord_nil ?_
            have hBf := hBe
            clear hBe
            have hz5 := hBf.size
            have hE5 := OwL.mono (OwL.bel kp1 hoj hBf) (fun b hb => (by rcases hb with hb | hb; exact .inl hb; exact .inr ⟨hb.1, by omega⟩ : G b ∨ (w3.heap.size ≤ b ∧ b < wd'.heap.size))) (fun b hb => by rcases hb with hb | hb; exact Nat.lt_of_lt_of_le (hbG b hb) (Nat.le_trans hWj.size hz5); exact hb.2)
            go_wp2_with fail
            go_roundw
            case rel => exact ⟨j + 1, by omega, by go_num, by rw [HPn.out]; exact hE5, hWj.trans (Wr.of_below hBf), by omega, bm.all hBf, bn.all hBf⟩
            case measure => simp [intOf] <;> omega
          | true =>
            have hPy := HPj.out.2 rfl
            clear HPj
            cases first with
            | false =>
              have HPy := hide (show tk false (T.part r pre (j + 1)) = tk false (T.part r pre j) ++ tk false (T.isos r (pre ++ [(j : Int)])) by rw [hPy]; rfl)
              have hfo2 : false = true → (outL ++ tk false (T.part r pre j)) = [] := fun h => by cases h
              clear hPy
              refine wp_region_be [0, 1, 2, 4, 5, 6, 7, 8, 3, 9, 10, 11, 12, 13, 14, 15, 16, 17, 18, 19, 20, 21, 22, 23, 24, 25] 26 wr.heap.size wr (by kernel_rfl) (by kernel_rfl) (by kernel_rfl) (fun _ _ _ _ _ h => h) (Below.refl _ _) (fun wd hBe => ?_)
              repeat (first | (apply ord_tk rfl (by rfl) (by rfl) (by rfl); (focus (intro wx hSw; have a0 := (hSw.cell (p := ⟨w.heap.size, 0, none⟩) hlm).trans r0; have a1 := (hSw.cell (p := ⟨w.heap.size, 1, none⟩) hlm).trans r1; have a2 := (hSw.cell (p := ⟨w.heap.size, 2, none⟩) hlm).trans r2; have a3 := (hSw.cell (p := ⟨w.heap.size + 1, 0, none⟩) hln).trans s0; have a4 := (hSw.cell (p := ⟨w.heap.size + 1, 1, none⟩) hln).trans s1; have a5 := (hSw.cell (p := ⟨w.heap.size + 1, 2, none⟩) hln).trans s2; have a6 := (hSw.cell (p := ⟨ab, ao + p, none⟩) hab).trans cp; go_simp; (try with_reducible rfl))); (try simp only [Act.put, List.setIfInBounds_toArray, List.set_cons_zero, List.set_cons_succ])) | (apply ord_skip rfl (by rfl) (by rfl) (fun _ => hBe); (try simp only [Act.put, List.setIfInBounds_toArray, List.set_cons_zero, List.set_cons_succ])))
              refine ord_do rfl (by rfl) (by rfl) (fun K hK => ?_)
              go_simp
              refine (hOrd.out _ (hBj.trans (hBe.mono (by omega))) (by have := hBe.size; omega)).mono ?_
              rintro e wd' ⟨rfl, hwd⟩
              replace hBe := hBe.trans (hwd.mono hBe.size)
              clear hwd
              refine hK.out _ _ (fun _ => hBe) ?_
              (try simp only [Act.put, List.setIfInBounds_toArray, List.set_cons_zero, List.set_cons_succ])
              clear hK K
              repeat (first | (apply ord_tk rfl (by rfl) (by rfl) (by rfl); (focus (intro wx hSw; have a0 := (hSw.cell (p := ⟨w.heap.size, 0, none⟩) hlm).trans r0; have a1 := (hSw.cell (p := ⟨w.heap.size, 1, none⟩) hlm).trans r1; have a2 := (hSw.cell (p := ⟨w.heap.size, 2, none⟩) hlm).trans r2; have a3 := (hSw.cell (p := ⟨w.heap.size + 1, 0, none⟩) hln).trans s0; have a4 := (hSw.cell (p := ⟨w.heap.size + 1, 1, none⟩) hln).trans s1; have a5 := (hSw.cell (p := ⟨w.heap.size + 1, 2, none⟩) hln).trans s2; have a6 := (hSw.cell (p := ⟨ab, ao + p, none⟩) hab).trans cp; go_simp; (try with_reducible rfl))); (try simp only [Act.put, List.setIfInBounds_toArray, List.set_cons_zero, List.set_cons_succ])) | (apply ord_skip rfl (by rfl) (by rfl) (fun _ => hBe); (try simp only [Act.put, List.setIfInBounds_toArray, List.set_cons_zero, List.set_cons_succ])))
              refine ord_do rfl (by rfl) (by rfl) (fun K hK => ?_)
              go_simp
              refine (hAlk.out _ (hBj.trans (hBe.mono (by omega))) (by have := hBe.size; omega)).mono ?_
              rintro e wd' ⟨rfl, hwd⟩
              replace hBe := hBe.trans (hwd.mono hBe.size)
              clear hwd
              refine hK.out _ _ (fun _ => hBe) ?_
              (try simp only [Act.put, List.setIfInBounds_toArray, List.set_cons_zero, List.set_cons_succ])
              clear hK K
              repeat (first | (apply ord_tk rfl (by rfl) (by rfl) (by rfl); (focus (intro wx hSw; have a0 := (hSw.cell (p := ⟨w.heap.size, 0, none⟩) hlm).trans r0; have a1 := (hSw.cell (p := ⟨w.heap.size, 1, none⟩) hlm).trans r1; have a2 := (hSw.cell (p := ⟨w.heap.size, 2, none⟩) hlm).trans r2; have a3 := (hSw.cell (p := ⟨w.heap.size + 1, 0, none⟩) hln).trans s0; have a4 := (hSw.cell (p := ⟨w.heap.size + 1, 1, none⟩) hln).trans s1; have a5 := (hSw.cell (p := ⟨w.heap.size + 1, 2, none⟩) hln).trans s2; have a6 := (hSw.cell (p := ⟨ab, ao + p, none⟩) hab).trans cp; go_simp; (try with_reducible rfl))); (try simp only [Act.put, List.setIfInBounds_toArray, List.set_cons_zero, List.set_cons_succ])) | (apply ord_skip rfl (by rfl) (by rfl) (fun _ => hBe); (try simp only [Act.put, List.setIfInBounds_toArray, List.set_cons_zero, List.set_cons_succ])))
              refine ord_nil ?_
              obtain ⟨w5, hw5⟩ : ∃ w5, w5 = wd' := ⟨_, rfl⟩
              subst hw5
              have hBf := hBe
              clear hBe
              have hs5 := hBf.size
              have hB5 := hBj.trans (hBf.mono (show B0 ≤ wr.heap.size by omega))
              have hW5 : Wr w w5 G := hWj.trans (Wr.of_below hBf)
              have bm5 := bm.all hBf
              have bn5 := bn.all hBf
              have ho5 := OwL.bel kp1 hoj hBf
              have he5 := hej.below hBf
              have h35 := he5.slN
              have r0 := bm5.cell 0
              have r1 := bm5.cell 1
              have r2 := bm5.cell 2
              have s0 := bn5.cell 0
              have s1 := bn5.cell 1
              have s2 := bn5.cell 2
              have hlm5 := bm5.lt
              have hln5 := bn5.lt
              go_wp2_with fail
              refine wp_region_btc (.one 0 (.one 1 (.one 2 (.one 4 (.one 7 (.one 8 (.two 3 (.one 5 (.one 6 (.one 9 (.one 10 .nil)))) 5 (.one 3 (.one 6 (.one 9 (.one 10 .nil))))))))))) 9 w5.heap.size w5 (by kernel_rfl) (by kernel_rfl) (by kernel_rfl) (fun _ _ _ _ _ h => h) (Below.refl _ _) (fun wd hBe => ?_)
              repeat (first | (apply ot_tk rfl (by rfl) (by rfl) (by rfl); (focus (intro wx hSw; have a0 := (hSw.cell (p := ⟨w.heap.size, 0, none⟩) hlm5).trans r0; have a1 := (hSw.cell (p := ⟨w.heap.size, 1, none⟩) hlm5).trans r1; have a2 := (hSw.cell (p := ⟨w.heap.size, 2, none⟩) hlm5).trans r2; have a3 := (hSw.cell (p := ⟨w.heap.size + 1, 0, none⟩) hln5).trans s0; have a4 := (hSw.cell (p := ⟨w.heap.size + 1, 1, none⟩) hln5).trans s1; have a5 := (hSw.cell (p := ⟨w.heap.size + 1, 2, none⟩) hln5).trans s2; go_simp; (try with_reducible rfl))); (try simp only [Act.put, List.setIfInBounds_toArray, List.set_cons_zero, List.set_cons_succ])) | (apply ot_skip rfl (by rfl) (by rfl) (fun _ => hBe); (try simp only [Act.put, List.setIfInBounds_toArray, List.set_cons_zero, List.set_cons_succ])))
              refine ot_two ?_ ?_
              · skip
                (refine ot_do rfl (by rfl) (by rfl) (fun K hK => ?_); go_simp; refine (l01Own_any _ w5.heap.size _ _ _ pre (h35.below hBe) hBe.size (by omega)).mono ?_; rintro e wn ⟨v, rfl, hO, hbn⟩; obtain ⟨Ao, co, rfl⟩ := hO.val; (try replace bH := bH.all hbn); replace hO := hO.less (show w5.heap.size ≤ _ from hBe.size); replace hBe := hBe.trans (hbn.mono hBe.size); clear hbn; refine hK.out _ _ (fun _ => hBe) ?_; (try simp only [Act.put, List.setIfInBounds_toArray, List.set_cons_zero, List.set_cons_succ]); clear hK K)
                repeat (first | (apply ot_tk rfl (by rfl) (by rfl) (by rfl); (focus (intro wx hSw; have a0 := (hSw.cell (p := ⟨w.heap.size, 0, none⟩) hlm5).trans r0; have a1 := (hSw.cell (p := ⟨w.heap.size, 1, none⟩) hlm5).trans r1; have a2 := (hSw.cell (p := ⟨w.heap.size, 2, none⟩) hlm5).trans r2; have a3 := (hSw.cell (p := ⟨w.heap.size + 1, 0, none⟩) hln5).trans s0; have a4 := (hSw.cell (p := ⟨w.heap.size + 1, 1, none⟩) hln5).trans s1; have a5 := (hSw.cell (p := ⟨w.heap.size + 1, 2, none⟩) hln5).trans s2; go_simp; (try with_reducible rfl))); (try simp only [Act.put, List.setIfInBounds_toArray, List.set_cons_zero, List.set_cons_succ])) | (apply ot_skip rfl (by rfl) (by rfl) (fun _ => hBe); (try simp only [Act.put, List.setIfInBounds_toArray, List.set_cons_zero, List.set_cons_succ])))
                (refine ot_do rfl (by rfl) (by rfl) (fun K hK => ?_); go_simp; obtain ⟨wa, H, hHe, hwa, hBa, hsub, bH, hHB⟩ := be_alloc hBe 2 #[.int .i64 (j : Int)]; rw [hwa, hHe]; clear hwa hHe hHB; (try replace hO := hO.below hsub); clear hBe hsub; have hBe := hBa; clear hBa; refine hK.out _ _ (fun _ => hBe) ?_; (try simp only [Act.put, List.setIfInBounds_toArray, List.set_cons_zero, List.set_cons_succ]); clear hK K)
                repeat (first | (apply ot_tk rfl (by rfl) (by rfl) (by rfl); (focus (intro wx hSw; have a0 := (hSw.cell (p := ⟨w.heap.size, 0, none⟩) hlm5).trans r0; have a1 := (hSw.cell (p := ⟨w.heap.size, 1, none⟩) hlm5).trans r1; have a2 := (hSw.cell (p := ⟨w.heap.size, 2, none⟩) hlm5).trans r2; have a3 := (hSw.cell (p := ⟨w.heap.size + 1, 0, none⟩) hln5).trans s0; have a4 := (hSw.cell (p := ⟨w.heap.size + 1, 1, none⟩) hln5).trans s1; have a5 := (hSw.cell (p := ⟨w.heap.size + 1, 2, none⟩) hln5).trans s2; go_simp; (try with_reducible rfl))); (try simp only [Act.put, List.setIfInBounds_toArray, List.set_cons_zero, List.set_cons_succ])) | (apply ot_skip rfl (by rfl) (by rfl) (fun _ => hBe); (try simp only [Act.put, List.setIfInBounds_toArray, List.set_cons_zero, List.set_cons_succ])))
                (refine ot_do rfl (by rfl) (by rfl) (fun K hK => ?_); refine wp_pushN _ _ _ (by rfl) w5.heap.size _ pre (by rfl) hO (j : Int) H _ (wa.heap.size - 1) (by rfl) bH (by rw [HP.out]; omega) hBe.size (by have := bH.lt; omega) ?_; intro ga cap w6 hP; have hO6 := hP.own; replace hBe := hBe.trans (hP.below hO hBe.size); clear hP hO bH; refine hK.out _ _ (fun _ => hBe) ?_; (try simp only [Act.put, List.setIfInBounds_toArray, List.set_cons_zero, List.set_cons_succ]); clear hK K)
                repeat (first | (apply ot_tk rfl (by rfl) (by rfl) (by rfl); (focus (intro wx hSw; have a0 := (hSw.cell (p := ⟨w.heap.size, 0, none⟩) hlm5).trans r0; have a1 := (hSw.cell (p := ⟨w.heap.size, 1, none⟩) hlm5).trans r1; have a2 := (hSw.cell (p := ⟨w.heap.size, 2, none⟩) hlm5).trans r2; have a3 := (hSw.cell (p := ⟨w.heap.size + 1, 0, none⟩) hln5).trans s0; have a4 := (hSw.cell (p := ⟨w.heap.size + 1, 1, none⟩) hln5).trans s1; have a5 := (hSw.cell (p := ⟨w.heap.size + 1, 2, none⟩) hln5).trans s2; go_simp; (try with_reducible rfl))); (try simp only [Act.put, List.setIfInBounds_toArray, List.set_cons_zero, List.set_cons_succ])) | (apply ot_skip rfl (by rfl) (by rfl) (fun _ => hBe); (try simp only [Act.put, List.setIfInBounds_toArray, List.set_cons_zero, List.set_cons_succ])))
                have hz6 := hBe.size
                have hB6 := hB5.trans (hBe.mono (show B0 ≤ w5.heap.size by omega))
                have hpr : ∀ y ∈ pre ++ [(j : Int)], i64ok y := fun y hy => by
                  rcases List.mem_append.1 hy with hy | hy
                  · exact he.rng y hy
                  · rw [List.mem_singleton.1 hy]; exact ⟨by omega, by omega⟩
                have hpi2 : ∀ y ∈ pre ++ [(j : Int)], 0 ≤ y ∧ y < T.us.length := fun y hy => by
                  rcases List.mem_append.1 hy with hy | hy
                  · rw [HN.out]; exact hi y hy
                  · rw [List.mem_singleton.1 hy, HN.out]; omega
                have hE6 := E1.of_ow6 hO6 hpr
                have hE26 := OwL.bel kp1 ho5 hBe
                have g1 : ∀ b, (w5.heap.size ≤ b ∧ b < w6.heap.size) → ¬ (G b ∨ (w3.heap.size ≤ b ∧ b < wr.heap.size)) ∧ B0 ≤ b := fun b hb => ⟨fun hh => by rcases hh with hh | hh; (have := hbG b hh; omega); omega, by omega⟩
                have g2 : ∀ b, (G b ∨ (w3.heap.size ≤ b ∧ b < wr.heap.size)) → B0 ≤ b := fun b hb => by rcases hb with hb | hb; exact hG0 b hb; omega
                have g3 : (pre ++ [(j : Int)]).length + r = T.os.length := by rw [List.length_append, List.length_singleton, HP.out, HL.out]; omega
                have g4 : (outL ++ tk false (T.part r pre j)).length + 16 ^ r ≤ 1000000 := by rw [HLQ.out]; exact hLq
                have hIH := ih w6 B0 (some ⟨ab, ao, none⟩) L c B N k A2 n2 c2 B2 N k2 (.slice (some ⟨ga, 0, none⟩) (pre.length + 1) cap) (.slice A5 lq c5) (pre ++ [(j : Int)]) (outL ++ tk false (T.part r pre j)) (fun b => w5.heap.size ≤ b ∧ b < w6.heap.size) (fun b => G b ∨ (w3.heap.size ≤ b ∧ b < wr.heap.size)) (h.below hB6) (h'.below hB6) (g.below hB6) (g'.below hB6) (by omega) hE6 hE26 g1 g2 hfo2 g3 hpi2 g4
                have HIH := hide hIH
                clear hIH g1 g2 g3 g4 hE26 hE6 hpi2 hpr hO6
                refine ot_do rfl (by rfl) (by rfl) (fun K hK => ?_)
                go_simp
                refine HIH.out.mono ?_
                rintro e w9 ⟨v9, rfl, hE9, hW9⟩
                refine hK.out _ _ (fun h => absurd h (by omega)) ?_
                (try simp only [Act.put, List.setIfInBounds_toArray, List.set_cons_zero, List.set_cons_succ])
                clear hK K
                refine ot_do rfl (by rfl) (by rfl) (fun K hK => ?_)
                go_simp
                refine hK.out _ _ (fun h => absurd h (by omega)) ?_
                (try simp only [Act.put, List.setIfInBounds_toArray, List.set_cons_zero, List.set_cons_succ])
                clear hK K
                refine ot_nil ?_
                have hz9 := hW9.size
                have hWz : Wr w w9 G := ⟨hW9.os.trans hB6.os, hW9.tape.trans hB6.tape, hW9.output.trans hB6.output, by omega, fun b hb hn => (hW9.block b (by omega) (fun hh => by rcases hh with hh | hh; exact hn hh; omega)).trans ((hBe.block b (by omega)).trans (hW5.block b hb hn))⟩
                have bm9 := hW9.blk (bm5.all hBe) (fun hh => by rcases hh with hh | hh; (have := hbG _ hh; omega); omega)
                have bn9 := hW9.blk (bn5.all hBe) (fun hh => by rcases hh with hh | hh; (have := hbG _ hh; omega); omega)
                have hE9' := OwL.mono hE9 (fun b hb => (by rcases hb with (hb | hb) | hb | hb; exact .inl hb; exact .inr ⟨hb.1, by omega⟩; exact .inr ⟨by omega, by omega⟩; exact .inr ⟨by omega, hb.2⟩ : G b ∨ (w3.heap.size ≤ b ∧ b < w9.heap.size))) (fun b hb => by rcases hb with hb | hb; (have := hbG b hb; omega); exact hb.2)
                go_wp2_with fail
                go_roundw
                case rel => exact ⟨j + 1, by omega, by go_num, by rw [HPy.out, ← List.append_assoc]; exact hE9', hWz, by omega, bm9, bn9⟩
                case measure => simp [intOf] <;> omega
              · skip
                (refine ot_do rfl (by rfl) (by rfl) (fun K hK => ?_); go_simp; obtain ⟨wa, H, hHe, hwa, hBa, hsub, bH, hHB⟩ := be_alloc hBe 2 #[.int .i64 (j : Int)]; rw [hwa, hHe]; clear hwa hHe hHB; (try replace hO := hO.below hsub); clear hBe hsub; have hBe := hBa; clear hBa; refine hK.out _ _ (fun _ => hBe) ?_; (try simp only [Act.put, List.setIfInBounds_toArray, List.set_cons_zero, List.set_cons_succ]); clear hK K)
                repeat (first | (apply ot_tk rfl (by rfl) (by rfl) (by rfl); (focus (intro wx hSw; have a0 := (hSw.cell (p := ⟨w.heap.size, 0, none⟩) hlm5).trans r0; have a1 := (hSw.cell (p := ⟨w.heap.size, 1, none⟩) hlm5).trans r1; have a2 := (hSw.cell (p := ⟨w.heap.size, 2, none⟩) hlm5).trans r2; have a3 := (hSw.cell (p := ⟨w.heap.size + 1, 0, none⟩) hln5).trans s0; have a4 := (hSw.cell (p := ⟨w.heap.size + 1, 1, none⟩) hln5).trans s1; have a5 := (hSw.cell (p := ⟨w.heap.size + 1, 2, none⟩) hln5).trans s2; go_simp; (try with_reducible rfl))); (try simp only [Act.put, List.setIfInBounds_toArray, List.set_cons_zero, List.set_cons_succ])) | (apply ot_skip rfl (by rfl) (by rfl) (fun _ => hBe); (try simp only [Act.put, List.setIfInBounds_toArray, List.set_cons_zero, List.set_cons_succ])))
                (refine ot_do rfl (by rfl) (by rfl) (fun K hK => ?_); go_simp; refine (l01Own_any _ w5.heap.size _ _ _ pre (h35.below hBe) hBe.size (by omega)).mono ?_; rintro e wn ⟨v, rfl, hO, hbn⟩; obtain ⟨Ao, co, rfl⟩ := hO.val; (try replace bH := bH.all hbn); replace hO := hO.less (show w5.heap.size ≤ _ from hBe.size); replace hBe := hBe.trans (hbn.mono hBe.size); clear hbn; refine hK.out _ _ (fun _ => hBe) ?_; (try simp only [Act.put, List.setIfInBounds_toArray, List.set_cons_zero, List.set_cons_succ]); clear hK K)
                repeat (first | (apply ot_tk rfl (by rfl) (by rfl) (by rfl); (focus (intro wx hSw; have a0 := (hSw.cell (p := ⟨w.heap.size, 0, none⟩) hlm5).trans r0; have a1 := (hSw.cell (p := ⟨w.heap.size, 1, none⟩) hlm5).trans r1; have a2 := (hSw.cell (p := ⟨w.heap.size, 2, none⟩) hlm5).trans r2; have a3 := (hSw.cell (p := ⟨w.heap.size + 1, 0, none⟩) hln5).trans s0; have a4 := (hSw.cell (p := ⟨w.heap.size + 1, 1, none⟩) hln5).trans s1; have a5 := (hSw.cell (p := ⟨w.heap.size + 1, 2, none⟩) hln5).trans s2; go_simp; (try with_reducible rfl))); (try simp only [Act.put, List.setIfInBounds_toArray, List.set_cons_zero, List.set_cons_succ])) | (apply ot_skip rfl (by rfl) (by rfl) (fun _ => hBe); (try simp only [Act.put, List.setIfInBounds_toArray, List.set_cons_zero, List.set_cons_succ])))
                (refine ot_do rfl (by rfl) (by rfl) (fun K hK => ?_); refine wp_pushN _ _ _ (by rfl) w5.heap.size _ pre (by rfl) hO (j : Int) H _ (wn.heap.size - 1) (by rfl) bH (by rw [HP.out]; omega) hBe.size (by have := bH.lt; omega) ?_; intro ga cap w6 hP; have hO6 := hP.own; replace hBe := hBe.trans (hP.below hO hBe.size); clear hP hO bH; refine hK.out _ _ (fun _ => hBe) ?_; (try simp only [Act.put, List.setIfInBounds_toArray, List.set_cons_zero, List.set_cons_succ]); clear hK K)
                repeat (first | (apply ot_tk rfl (by rfl) (by rfl) (by rfl); (focus (intro wx hSw; have a0 := (hSw.cell (p := ⟨w.heap.size, 0, none⟩) hlm5).trans r0; have a1 := (hSw.cell (p := ⟨w.heap.size, 1, none⟩) hlm5).trans r1; have a2 := (hSw.cell (p := ⟨w.heap.size, 2, none⟩) hlm5).trans r2; have a3 := (hSw.cell (p := ⟨w.heap.size + 1, 0, none⟩) hln5).trans s0; have a4 := (hSw.cell (p := ⟨w.heap.size + 1, 1, none⟩) hln5).trans s1; have a5 := (hSw.cell (p := ⟨w.heap.size + 1, 2, none⟩) hln5).trans s2; go_simp; (try with_reducible rfl))); (try simp only [Act.put, List.setIfInBounds_toArray, List.set_cons_zero, List.set_cons_succ])) | (apply ot_skip rfl (by rfl) (by rfl) (fun _ => hBe); (try simp only [Act.put, List.setIfInBounds_toArray, List.set_cons_zero, List.set_cons_succ])))
                have hz6 := hBe.size
                have hB6 := hB5.trans (hBe.mono (show B0 ≤ w5.heap.size by omega))
                have hpr : ∀ y ∈ pre ++ [(j : Int)], i64ok y := fun y hy => by
                  rcases List.mem_append.1 hy with hy | hy
                  · exact he.rng y hy
                  · rw [List.mem_singleton.1 hy]; exact ⟨by omega, by omega⟩
                have hpi2 : ∀ y ∈ pre ++ [(j : Int)], 0 ≤ y ∧ y < T.us.length := fun y hy => by
                  rcases List.mem_append.1 hy with hy | hy
                  · rw [HN.out]; exact hi y hy
                  · rw [List.mem_singleton.1 hy, HN.out]; omega
                have hE6 := E1.of_ow6 hO6 hpr
                have hE26 := OwL.bel kp1 ho5 hBe
                have g1 : ∀ b, (w5.heap.size ≤ b ∧ b < w6.heap.size) → ¬ (G b ∨ (w3.heap.size ≤ b ∧ b < wr.heap.size)) ∧ B0 ≤ b := fun b hb => ⟨fun hh => by rcases hh with hh | hh; (have := hbG b hh; omega); omega, by omega⟩
                have g2 : ∀ b, (G b ∨ (w3.heap.size ≤ b ∧ b < wr.heap.size)) → B0 ≤ b := fun b hb => by rcases hb with hb | hb; exact hG0 b hb; omega
                have g3 : (pre ++ [(j : Int)]).length + r = T.os.length := by rw [List.length_append, List.length_singleton, HP.out, HL.out]; omega
                have g4 : (outL ++ tk false (T.part r pre j)).length + 16 ^ r ≤ 1000000 := by rw [HLQ.out]; exact hLq
                have hIH := ih w6 B0 (some ⟨ab, ao, none⟩) L c B N k A2 n2 c2 B2 N k2 (.slice (some ⟨ga, 0, none⟩) (pre.length + 1) cap) (.slice A5 lq c5) (pre ++ [(j : Int)]) (outL ++ tk false (T.part r pre j)) (fun b => w5.heap.size ≤ b ∧ b < w6.heap.size) (fun b => G b ∨ (w3.heap.size ≤ b ∧ b < wr.heap.size)) (h.below hB6) (h'.below hB6) (g.below hB6) (g'.below hB6) (by omega) hE6 hE26 g1 g2 hfo2 g3 hpi2 g4
                have HIH := hide hIH
                clear hIH g1 g2 g3 g4 hE26 hE6 hpi2 hpr hO6
                refine ot_do rfl (by rfl) (by rfl) (fun K hK => ?_)
                go_simp
                refine HIH.out.mono ?_
                rintro e w9 ⟨v9, rfl, hE9, hW9⟩
                refine hK.out _ _ (fun h => absurd h (by omega)) ?_
                (try simp only [Act.put, List.setIfInBounds_toArray, List.set_cons_zero, List.set_cons_succ])
                clear hK K
                refine ot_do rfl (by rfl) (by rfl) (fun K hK => ?_)
                go_simp
                refine hK.out _ _ (fun h => absurd h (by omega)) ?_
                (try simp only [Act.put, List.setIfInBounds_toArray, List.set_cons_zero, List.set_cons_succ])
                clear hK K
                refine ot_nil ?_
                have hz9 := hW9.size
                have hWz : Wr w w9 G := ⟨hW9.os.trans hB6.os, hW9.tape.trans hB6.tape, hW9.output.trans hB6.output, by omega, fun b hb hn => (hW9.block b (by omega) (fun hh => by rcases hh with hh | hh; exact hn hh; omega)).trans ((hBe.block b (by omega)).trans (hW5.block b hb hn))⟩
                have bm9 := hW9.blk (bm5.all hBe) (fun hh => by rcases hh with hh | hh; (have := hbG _ hh; omega); omega)
                have bn9 := hW9.blk (bn5.all hBe) (fun hh => by rcases hh with hh | hh; (have := hbG _ hh; omega); omega)
                have hE9' := OwL.mono hE9 (fun b hb => (by rcases hb with (hb | hb) | hb | hb; exact .inl hb; exact .inr ⟨hb.1, by omega⟩; exact .inr ⟨by omega, by omega⟩; exact .inr ⟨by omega, hb.2⟩ : G b ∨ (w3.heap.size ≤ b ∧ b < w9.heap.size))) (fun b hb => by rcases hb with hb | hb; (have := hbG b hb; omega); exact hb.2)
                go_wp2_with fail
                go_roundw
                case rel => exact ⟨j + 1, by omega, by go_num, by rw [HPy.out, ← List.append_assoc]; exact hE9', hWz, by omega, bm9, bn9⟩
                case measure => simp [intOf] <;> omega
            | true =>
              have ho0 := hfo rfl
              by_cases hq0 : lq = 0
              · have hem : tk true (T.part r pre j) = [] := by
                  have := HLQ.out
                  rw [hq0, ho0, List.nil_append] at this
                  exact List.eq_nil_of_length_eq_zero this
                have HPy := hide (show tk true (T.part r pre (j + 1)) = tk true (T.part r pre j) ++ tk true (T.isos r (pre ++ [(j : Int)])) by rw [hPy]; exact tk_go (by rw [hem]; rfl))
                have hfo2 : true = true → (outL ++ tk true (T.part r pre j)) = [] := fun h => by rw [ho0, hem]; rfl
                have hl0 : ((lq : Int) == 0) = true := by rw [hq0]; rfl
                clear hPy hem hq0
                refine wp_region_be [0, 1, 2, 4, 5, 6, 7, 8, 3, 9, 10, 11, 12, 13, 14, 15, 16, 17, 18, 19, 20, 21, 22, 23, 24, 25] 26 wr.heap.size wr (by kernel_rfl) (by kernel_rfl) (by kernel_rfl) (fun _ _ _ _ _ h => h) (Below.refl _ _) (fun wd hBe => ?_)
                repeat (first | (apply ord_tk rfl (by rfl) (by rfl) (by rfl); (focus (intro wx hSw; have a0 := (hSw.cell (p := ⟨w.heap.size, 0, none⟩) hlm).trans r0; have a1 := (hSw.cell (p := ⟨w.heap.size, 1, none⟩) hlm).trans r1; have a2 := (hSw.cell (p := ⟨w.heap.size, 2, none⟩) hlm).trans r2; have a3 := (hSw.cell (p := ⟨w.heap.size + 1, 0, none⟩) hln).trans s0; have a4 := (hSw.cell (p := ⟨w.heap.size + 1, 1, none⟩) hln).trans s1; have a5 := (hSw.cell (p := ⟨w.heap.size + 1, 2, none⟩) hln).trans s2; have a6 := (hSw.cell (p := ⟨ab, ao + p, none⟩) hab).trans cp; go_simp; (try with_reducible rfl))); (try simp only [Act.put, List.setIfInBounds_toArray, List.set_cons_zero, List.set_cons_succ])) | (apply ord_skip rfl (by rfl) (by rfl) (fun _ => hBe); (try simp only [Act.put, List.setIfInBounds_toArray, List.set_cons_zero, List.set_cons_succ])))
                refine ord_do rfl (by rfl) (by rfl) (fun K hK => ?_)
                go_simp
                refine (hOrd.out _ (hBj.trans (hBe.mono (by omega))) (by have := hBe.size; omega)).mono ?_
                rintro e wd' ⟨rfl, hwd⟩
                replace hBe := hBe.trans (hwd.mono hBe.size)
                clear hwd
                refine hK.out _ _ (fun _ => hBe) ?_
                (try simp only [Act.put, List.setIfInBounds_toArray, List.set_cons_zero, List.set_cons_succ])
                clear hK K
                repeat (first | (apply ord_tk rfl (by rfl) (by rfl) (by rfl); (focus (intro wx hSw; have a0 := (hSw.cell (p := ⟨w.heap.size, 0, none⟩) hlm).trans r0; have a1 := (hSw.cell (p := ⟨w.heap.size, 1, none⟩) hlm).trans r1; have a2 := (hSw.cell (p := ⟨w.heap.size, 2, none⟩) hlm).trans r2; have a3 := (hSw.cell (p := ⟨w.heap.size + 1, 0, none⟩) hln).trans s0; have a4 := (hSw.cell (p := ⟨w.heap.size + 1, 1, none⟩) hln).trans s1; have a5 := (hSw.cell (p := ⟨w.heap.size + 1, 2, none⟩) hln).trans s2; have a6 := (hSw.cell (p := ⟨ab, ao + p, none⟩) hab).trans cp; go_simp; (try with_reducible rfl))); (try simp only [Act.put, List.setIfInBounds_toArray, List.set_cons_zero, List.set_cons_succ])) | (apply ord_skip rfl (by rfl) (by rfl) (fun _ => hBe); (try simp only [Act.put, List.setIfInBounds_toArray, List.set_cons_zero, List.set_cons_succ])))
                refine ord_do rfl (by rfl) (by rfl) (fun K hK => ?_)
                go_simp
                refine (hAlk.out _ (hBj.trans (hBe.mono (by omega))) (by have := hBe.size; omega)).mono ?_
                rintro e wd' ⟨rfl, hwd⟩
                replace hBe := hBe.trans (hwd.mono hBe.size)
                clear hwd
                refine hK.out _ _ (fun _ => hBe) ?_
                (try simp only [Act.put, List.setIfInBounds_toArray, List.set_cons_zero, List.set_cons_succ])
                clear hK K
                repeat (first | (apply ord_tk rfl (by rfl) (by rfl) (by rfl); (focus (intro wx hSw; have a0 := (hSw.cell (p := ⟨w.heap.size, 0, none⟩) hlm).trans r0; have a1 := (hSw.cell (p := ⟨w.heap.size, 1, none⟩) hlm).trans r1; have a2 := (hSw.cell (p := ⟨w.heap.size, 2, none⟩) hlm).trans r2; have a3 := (hSw.cell (p := ⟨w.heap.size + 1, 0, none⟩) hln).trans s0; have a4 := (hSw.cell (p := ⟨w.heap.size + 1, 1, none⟩) hln).trans s1; have a5 := (hSw.cell (p := ⟨w.heap.size + 1, 2, none⟩) hln).trans s2; have a6 := (hSw.cell (p := ⟨ab, ao + p, none⟩) hab).trans cp; go_simp; (try with_reducible rfl))); (try simp only [Act.put, List.setIfInBounds_toArray, List.set_cons_zero, List.set_cons_succ])) | (apply ord_skip rfl (by rfl) (by rfl) (fun _ => hBe); (try simp only [Act.put, List.setIfInBounds_toArray, List.set_cons_zero, List.set_cons_succ])))
                refine ord_nil ?_
                obtain ⟨w5, hw5⟩ : ∃ w5, w5 = wd' := ⟨_, rfl⟩
                subst hw5
                have hBf := hBe
                clear hBe
                have hs5 := hBf.size
                have hB5 := hBj.trans (hBf.mono (show B0 ≤ wr.heap.size by omega))
                have hW5 : Wr w w5 G := hWj.trans (Wr.of_below hBf)
                have bm5 := bm.all hBf
                have bn5 := bn.all hBf
                have ho5 := OwL.bel kp1 hoj hBf
                have he5 := hej.below hBf
                have h35 := he5.slN
                have r0 := bm5.cell 0
                have r1 := bm5.cell 1
                have r2 := bm5.cell 2
                have s0 := bn5.cell 0
                have s1 := bn5.cell 1
                have s2 := bn5.cell 2
                have hlm5 := bm5.lt
                have hln5 := bn5.lt
                go_wp2_with fail
                refine wp_region_btc (.one 0 (.one 1 (.one 2 (.one 4 (.one 7 (.one 8 (.two 3 (.one 5 (.one 6 (.one 9 (.one 10 .nil)))) 5 (.one 3 (.one 6 (.one 9 (.one 10 .nil))))))))))) 9 w5.heap.size w5 (by kernel_rfl) (by kernel_rfl) (by kernel_rfl) (fun _ _ _ _ _ h => h) (Below.refl _ _) (fun wd hBe => ?_)
                repeat (first | (apply ot_tk rfl (by rfl) (by rfl) (by rfl); (focus (intro wx hSw; have a0 := (hSw.cell (p := ⟨w.heap.size, 0, none⟩) hlm5).trans r0; have a1 := (hSw.cell (p := ⟨w.heap.size, 1, none⟩) hlm5).trans r1; have a2 := (hSw.cell (p := ⟨w.heap.size, 2, none⟩) hlm5).trans r2; have a3 := (hSw.cell (p := ⟨w.heap.size + 1, 0, none⟩) hln5).trans s0; have a4 := (hSw.cell (p := ⟨w.heap.size + 1, 1, none⟩) hln5).trans s1; have a5 := (hSw.cell (p := ⟨w.heap.size + 1, 2, none⟩) hln5).trans s2; go_simp; (try with_reducible rfl))); (try simp only [Act.put, List.setIfInBounds_toArray, List.set_cons_zero, List.set_cons_succ])) | (apply ot_skip rfl (by rfl) (by rfl) (fun _ => hBe); (try simp only [Act.put, List.setIfInBounds_toArray, List.set_cons_zero, List.set_cons_succ])))
                refine ot_two ?_ ?_
                · skip
                  (refine ot_do rfl (by rfl) (by rfl) (fun K hK => ?_); go_simp; refine (l01Own_any _ w5.heap.size _ _ _ pre (h35.below hBe) hBe.size (by omega)).mono ?_; rintro e wn ⟨v, rfl, hO, hbn⟩; obtain ⟨Ao, co, rfl⟩ := hO.val; (try replace bH := bH.all hbn); replace hO := hO.less (show w5.heap.size ≤ _ from hBe.size); replace hBe := hBe.trans (hbn.mono hBe.size); clear hbn; refine hK.out _ _ (fun _ => hBe) ?_; (try simp only [Act.put, List.setIfInBounds_toArray, List.set_cons_zero, List.set_cons_succ]); clear hK K)
                  repeat (first | (apply ot_tk rfl (by rfl) (by rfl) (by rfl); (focus (intro wx hSw; have a0 := (hSw.cell (p := ⟨w.heap.size, 0, none⟩) hlm5).trans r0; have a1 := (hSw.cell (p := ⟨w.heap.size, 1, none⟩) hlm5).trans r1; have a2 := (hSw.cell (p := ⟨w.heap.size, 2, none⟩) hlm5).trans r2; have a3 := (hSw.cell (p := ⟨w.heap.size + 1, 0, none⟩) hln5).trans s0; have a4 := (hSw.cell (p := ⟨w.heap.size + 1, 1, none⟩) hln5).trans s1; have a5 := (hSw.cell (p := ⟨w.heap.size + 1, 2, none⟩) hln5).trans s2; go_simp; (try with_reducible rfl))); (try simp only [Act.put, List.setIfInBounds_toArray, List.set_cons_zero, List.set_cons_succ])) | (apply ot_skip rfl (by rfl) (by rfl) (fun _ => hBe); (try simp only [Act.put, List.setIfInBounds_toArray, List.set_cons_zero, List.set_cons_succ])))
                  (refine ot_do rfl (by rfl) (by rfl) (fun K hK => ?_); go_simp; obtain ⟨wa, H, hHe, hwa, hBa, hsub, bH, hHB⟩ := be_alloc hBe 2 #[.int .i64 (j : Int)]; rw [hwa, hHe]; clear hwa hHe hHB; (try replace hO := hO.below hsub); clear hBe hsub; have hBe := hBa; clear hBa; refine hK.out _ _ (fun _ => hBe) ?_; (try simp only [Act.put, List.setIfInBounds_toArray, List.set_cons_zero, List.set_cons_succ]); clear hK K)
                  repeat (first | (apply ot_tk rfl (by rfl) (by rfl) (by rfl); (focus (intro wx hSw; have a0 := (hSw.cell (p := ⟨w.heap.size, 0, none⟩) hlm5).trans r0; have a1 := (hSw.cell (p := ⟨w.heap.size, 1, none⟩) hlm5).trans r1; have a2 := (hSw.cell (p := ⟨w.heap.size, 2, none⟩) hlm5).trans r2; have a3 := (hSw.cell (p := ⟨w.heap.size + 1, 0, none⟩) hln5).trans s0; have a4 := (hSw.cell (p := ⟨w.heap.size + 1, 1, none⟩) hln5).trans s1; have a5 := (hSw.cell (p := ⟨w.heap.size + 1, 2, none⟩) hln5).trans s2; go_simp; (try with_reducible rfl))); (try simp only [Act.put, List.setIfInBounds_toArray, List.set_cons_zero, List.set_cons_succ])) | (apply ot_skip rfl (by rfl) (by rfl) (fun _ => hBe); (try simp only [Act.put, List.setIfInBounds_toArray, List.set_cons_zero, List.set_cons_succ])))
                  (refine ot_do rfl (by rfl) (by rfl) (fun K hK => ?_); refine wp_pushN _ _ _ (by rfl) w5.heap.size _ pre (by rfl) hO (j : Int) H _ (wa.heap.size - 1) (by rfl) bH (by rw [HP.out]; omega) hBe.size (by have := bH.lt; omega) ?_; intro ga cap w6 hP; have hO6 := hP.own; replace hBe := hBe.trans (hP.below hO hBe.size); clear hP hO bH; refine hK.out _ _ (fun _ => hBe) ?_; (try simp only [Act.put, List.setIfInBounds_toArray, List.set_cons_zero, List.set_cons_succ]); clear hK K)
                  repeat (first | (apply ot_tk rfl (by rfl) (by rfl) (by rfl); (focus (intro wx hSw; have a0 := (hSw.cell (p := ⟨w.heap.size, 0, none⟩) hlm5).trans r0; have a1 := (hSw.cell (p := ⟨w.heap.size, 1, none⟩) hlm5).trans r1; have a2 := (hSw.cell (p := ⟨w.heap.size, 2, none⟩) hlm5).trans r2; have a3 := (hSw.cell (p := ⟨w.heap.size + 1, 0, none⟩) hln5).trans s0; have a4 := (hSw.cell (p := ⟨w.heap.size + 1, 1, none⟩) hln5).trans s1; have a5 := (hSw.cell (p := ⟨w.heap.size + 1, 2, none⟩) hln5).trans s2; go_simp; (try with_reducible rfl))); (try simp only [Act.put, List.setIfInBounds_toArray, List.set_cons_zero, List.set_cons_succ])) | (apply ot_skip rfl (by rfl) (by rfl) (fun _ => hBe); (try simp only [Act.put, List.setIfInBounds_toArray, List.set_cons_zero, List.set_cons_succ])))
                  have hz6 := hBe.size
                  have hB6 := hB5.trans (hBe.mono (show B0 ≤ w5.heap.size by omega))
                  have hpr : ∀ y ∈ pre ++ [(j : Int)], i64ok y := fun y hy => by
                    rcases List.mem_append.1 hy with hy | hy
                    · exact he.rng y hy
                    · rw [List.mem_singleton.1 hy]; exact ⟨by omega, by omega⟩
                  have hpi2 : ∀ y ∈ pre ++ [(j : Int)], 0 ≤ y ∧ y < T.us.length := fun y hy => by
                    rcases List.mem_append.1 hy with hy | hy
                    · rw [HN.out]; exact hi y hy
                    · rw [List.mem_singleton.1 hy, HN.out]; omega
                  have hE6 := E1.of_ow6 hO6 hpr
                  have hE26 := OwL.bel kp1 ho5 hBe
                  have g1 : ∀ b, (w5.heap.size ≤ b ∧ b < w6.heap.size) → ¬ (G b ∨ (w3.heap.size ≤ b ∧ b < wr.heap.size)) ∧ B0 ≤ b := fun b hb => ⟨fun hh => by rcases hh with hh | hh; (have := hbG b hh; omega); omega, by omega⟩
                  have g2 : ∀ b, (G b ∨ (w3.heap.size ≤ b ∧ b < wr.heap.size)) → B0 ≤ b := fun b hb => by rcases hb with hb | hb; exact hG0 b hb; omega
                  have g3 : (pre ++ [(j : Int)]).length + r = T.os.length := by rw [List.length_append, List.length_singleton, HP.out, HL.out]; omega
                  have g4 : (outL ++ tk true (T.part r pre j)).length + 16 ^ r ≤ 1000000 := by rw [HLQ.out]; exact hLq
                  have hIH := ih w6 B0 (some ⟨ab, ao, none⟩) L c B N k A2 n2 c2 B2 N k2 (.slice (some ⟨ga, 0, none⟩) (pre.length + 1) cap) (.slice A5 lq c5) (pre ++ [(j : Int)]) (outL ++ tk true (T.part r pre j)) (fun b => w5.heap.size ≤ b ∧ b < w6.heap.size) (fun b => G b ∨ (w3.heap.size ≤ b ∧ b < wr.heap.size)) (h.below hB6) (h'.below hB6) (g.below hB6) (g'.below hB6) (by omega) hE6 hE26 g1 g2 hfo2 g3 hpi2 g4
                  have HIH := hide hIH
                  clear hIH g1 g2 g3 g4 hE26 hE6 hpi2 hpr hO6
                  refine ot_do rfl (by rfl) (by rfl) (fun K hK => ?_)
                  go_simp
                  refine HIH.out.mono ?_
                  rintro e w9 ⟨v9, rfl, hE9, hW9⟩
                  refine hK.out _ _ (fun h => absurd h (by omega)) ?_
                  (try simp only [Act.put, List.setIfInBounds_toArray, List.set_cons_zero, List.set_cons_succ])
                  clear hK K
                  refine ot_do rfl (by rfl) (by rfl) (fun K hK => ?_)
                  go_simp
                  refine hK.out _ _ (fun h => absurd h (by omega)) ?_
                  (try simp only [Act.put, List.setIfInBounds_toArray, List.set_cons_zero, List.set_cons_succ])
                  clear hK K
                  refine ot_nil ?_
                  have hz9 := hW9.size
                  have hWz : Wr w w9 G := ⟨hW9.os.trans hB6.os, hW9.tape.trans hB6.tape, hW9.output.trans hB6.output, by omega, fun b hb hn => (hW9.block b (by omega) (fun hh => by rcases hh with hh | hh; exact hn hh; omega)).trans ((hBe.block b (by omega)).trans (hW5.block b hb hn))⟩
                  have bm9 := hW9.blk (bm5.all hBe) (fun hh => by rcases hh with hh | hh; (have := hbG _ hh; omega); omega)
                  have bn9 := hW9.blk (bn5.all hBe) (fun hh => by rcases hh with hh | hh; (have := hbG _ hh; omega); omega)
                  have hE9' := OwL.mono hE9 (fun b hb => (by rcases hb with (hb | hb) | hb | hb; exact .inl hb; exact .inr ⟨hb.1, by omega⟩; exact .inr ⟨by omega, by omega⟩; exact .inr ⟨by omega, hb.2⟩ : G b ∨ (w3.heap.size ≤ b ∧ b < w9.heap.size))) (fun b hb => by rcases hb with hb | hb; (have := hbG b hb; omega); exact hb.2)
                  go_wp2_with fail
                  go_roundw
                  case rel => exact ⟨j + 1, by omega, by go_num, by rw [HPy.out, ← List.append_assoc]; exact hE9', hWz, by omega, bm9, bn9⟩
                  case measure => simp [intOf] <;> omega
                · skip
                  (refine ot_do rfl (by rfl) (by rfl) (fun K hK => ?_); go_simp; obtain ⟨wa, H, hHe, hwa, hBa, hsub, bH, hHB⟩ := be_alloc hBe 2 #[.int .i64 (j : Int)]; rw [hwa, hHe]; clear hwa hHe hHB; (try replace hO := hO.below hsub); clear hBe hsub; have hBe := hBa; clear hBa; refine hK.out _ _ (fun _ => hBe) ?_; (try simp only [Act.put, List.setIfInBounds_toArray, List.set_cons_zero, List.set_cons_succ]); clear hK K)
                  repeat (first | (apply ot_tk rfl (by rfl) (by rfl) (by rfl); (focus (intro wx hSw; have a0 := (hSw.cell (p := ⟨w.heap.size, 0, none⟩) hlm5).trans r0; have a1 := (hSw.cell (p := ⟨w.heap.size, 1, none⟩) hlm5).trans r1; have a2 := (hSw.cell (p := ⟨w.heap.size, 2, none⟩) hlm5).trans r2; have a3 := (hSw.cell (p := ⟨w.heap.size + 1, 0, none⟩) hln5).trans s0; have a4 := (hSw.cell (p := ⟨w.heap.size + 1, 1, none⟩) hln5).trans s1; have a5 := (hSw.cell (p := ⟨w.heap.size + 1, 2, none⟩) hln5).trans s2; go_simp; (try with_reducible rfl))); (try simp only [Act.put, List.setIfInBounds_toArray, List.set_cons_zero, List.set_cons_succ])) | (apply ot_skip rfl (by rfl) (by rfl) (fun _ => hBe); (try simp only [Act.put, List.setIfInBounds_toArray, List.set_cons_zero, List.set_cons_succ])))
                  (refine ot_do rfl (by rfl) (by rfl) (fun K hK => ?_); go_simp; refine (l01Own_any _ w5.heap.size _ _ _ pre (h35.below hBe) hBe.size (by omega)).mono ?_; rintro e wn ⟨v, rfl, hO, hbn⟩; obtain ⟨Ao, co, rfl⟩ := hO.val; (try replace bH := bH.all hbn); replace hO := hO.less (show w5.heap.size ≤ _ from hBe.size); replace hBe := hBe.trans (hbn.mono hBe.size); clear hbn; refine hK.out _ _ (fun _ => hBe) ?_; (try simp only [Act.put, List.setIfInBounds_toArray, List.set_cons_zero, List.set_cons_succ]); clear hK K)
                  repeat (first | (apply ot_tk rfl (by rfl) (by rfl) (by rfl); (focus (intro wx hSw; have a0 := (hSw.cell (p := ⟨w.heap.size, 0, none⟩) hlm5).trans r0; have a1 := (hSw.cell (p := ⟨w.heap.size, 1, none⟩) hlm5).trans r1; have a2 := (hSw.cell (p := ⟨w.heap.size, 2, none⟩) hlm5).trans r2; have a3 := (hSw.cell (p := ⟨w.heap.size + 1, 0, none⟩) hln5).trans s0; have a4 := (hSw.cell (p := ⟨w.heap.size + 1, 1, none⟩) hln5).trans s1; have a5 := (hSw.cell (p := ⟨w.heap.size + 1, 2, none⟩) hln5).trans s2; go_simp; (try with_reducible rfl))); (try simp only [Act.put, List.setIfInBounds_toArray, List.set_cons_zero, List.set_cons_succ])) | (apply ot_skip rfl (by rfl) (by rfl) (fun _ => hBe); (try simp only [Act.put, List.setIfInBounds_toArray, List.set_cons_zero, List.set_cons_succ])))
                  (refine ot_do rfl (by rfl) (by rfl) (fun K hK => ?_); refine wp_pushN _ _ _ (by rfl) w5.heap.size _ pre (by rfl) hO (j : Int) H _ (wn.heap.size - 1) (by rfl) bH (by rw [HP.out]; omega) hBe.size (by have := bH.lt; omega) ?_; intro ga cap w6 hP; have hO6 := hP.own; replace hBe := hBe.trans (hP.below hO hBe.size); clear hP hO bH; refine hK.out _ _ (fun _ => hBe) ?_; (try simp only [Act.put, List.setIfInBounds_toArray, List.set_cons_zero, List.set_cons_succ]); clear hK K)
                  repeat (first | (apply ot_tk rfl (by rfl) (by rfl) (by rfl); (focus (intro wx hSw; have a0 := (hSw.cell (p := ⟨w.heap.size, 0, none⟩) hlm5).trans r0; have a1 := (hSw.cell (p := ⟨w.heap.size, 1, none⟩) hlm5).trans r1; have a2 := (hSw.cell (p := ⟨w.heap.size, 2, none⟩) hlm5).trans r2; have a3 := (hSw.cell (p := ⟨w.heap.size + 1, 0, none⟩) hln5).trans s0; have a4 := (hSw.cell (p := ⟨w.heap.size + 1, 1, none⟩) hln5).trans s1; have a5 := (hSw.cell (p := ⟨w.heap.size + 1, 2, none⟩) hln5).trans s2; go_simp; (try with_reducible rfl))); (try simp only [Act.put, List.setIfInBounds_toArray, List.set_cons_zero, List.set_cons_succ])) | (apply ot_skip rfl (by rfl) (by rfl) (fun _ => hBe); (try simp only [Act.put, List.setIfInBounds_toArray, List.set_cons_zero, List.set_cons_succ])))
                  have hz6 := hBe.size
                  have hB6 := hB5.trans (hBe.mono (show B0 ≤ w5.heap.size by omega))
                  have hpr : ∀ y ∈ pre ++ [(j : Int)], i64ok y := fun y hy => by
                    rcases List.mem_append.1 hy with hy | hy
                    · exact he.rng y hy
                    · rw [List.mem_singleton.1 hy]; exact ⟨by omega, by omega⟩
                  have hpi2 : ∀ y ∈ pre ++ [(j : Int)], 0 ≤ y ∧ y < T.us.length := fun y hy => by
                    rcases List.mem_append.1 hy with hy | hy
                    · rw [HN.out]; exact hi y hy
                    · rw [List.mem_singleton.1 hy, HN.out]; omega
                  have hE6 := E1.of_ow6 hO6 hpr
                  have hE26 := OwL.bel kp1 ho5 hBe
                  have g1 : ∀ b, (w5.heap.size ≤ b ∧ b < w6.heap.size) → ¬ (G b ∨ (w3.heap.size ≤ b ∧ b < wr.heap.size)) ∧ B0 ≤ b := fun b hb => ⟨fun hh => by rcases hh with hh | hh; (have := hbG b hh; omega); omega, by omega⟩
                  have g2 : ∀ b, (G b ∨ (w3.heap.size ≤ b ∧ b < wr.heap.size)) → B0 ≤ b := fun b hb => by rcases hb with hb | hb; exact hG0 b hb; omega
                  have g3 : (pre ++ [(j : Int)]).length + r = T.os.length := by rw [List.length_append, List.length_singleton, HP.out, HL.out]; omega
                  have g4 : (outL ++ tk true (T.part r pre j)).length + 16 ^ r ≤ 1000000 := by rw [HLQ.out]; exact hLq
                  have hIH := ih w6 B0 (some ⟨ab, ao, none⟩) L c B N k A2 n2 c2 B2 N k2 (.slice (some ⟨ga, 0, none⟩) (pre.length + 1) cap) (.slice A5 lq c5) (pre ++ [(j : Int)]) (outL ++ tk true (T.part r pre j)) (fun b => w5.heap.size ≤ b ∧ b < w6.heap.size) (fun b => G b ∨ (w3.heap.size ≤ b ∧ b < wr.heap.size)) (h.below hB6) (h'.below hB6) (g.below hB6) (g'.below hB6) (by omega) hE6 hE26 g1 g2 hfo2 g3 hpi2 g4
                  have HIH := hide hIH
                  clear hIH g1 g2 g3 g4 hE26 hE6 hpi2 hpr hO6
                  refine ot_do rfl (by rfl) (by rfl) (fun K hK => ?_)
                  go_simp
                  refine HIH.out.mono ?_
                  rintro e w9 ⟨v9, rfl, hE9, hW9⟩
                  refine hK.out _ _ (fun h => absurd h (by omega)) ?_
                  (try simp only [Act.put, List.setIfInBounds_toArray, List.set_cons_zero, List.set_cons_succ])
                  clear hK K
                  refine ot_do rfl (by rfl) (by rfl) (fun K hK => ?_)
                  go_simp
                  refine hK.out _ _ (fun h => absurd h (by omega)) ?_
                  (try simp only [Act.put, List.setIfInBounds_toArray, List.set_cons_zero, List.set_cons_succ])
                  clear hK K
                  refine ot_nil ?_
                  have hz9 := hW9.size
                  have hWz : Wr w w9 G := ⟨hW9.os.trans hB6.os, hW9.tape.trans hB6.tape, hW9.output.trans hB6.output, by omega, fun b hb hn => (hW9.block b (by omega) (fun hh => by rcases hh with hh | hh; exact hn hh; omega)).trans ((hBe.block b (by omega)).trans (hW5.block b hb hn))⟩
                  have bm9 := hW9.blk (bm5.all hBe) (fun hh => by rcases hh with hh | hh; (have := hbG _ hh; omega); omega)
                  have bn9 := hW9.blk (bn5.all hBe) (fun hh => by rcases hh with hh | hh; (have := hbG _ hh; omega); omega)
                  have hE9' := OwL.mono hE9 (fun b hb => (by rcases hb with (hb | hb) | hb | hb; exact .inl hb; exact .inr ⟨hb.1, by omega⟩; exact .inr ⟨by omega, by omega⟩; exact .inr ⟨by omega, hb.2⟩ : G b ∨ (w3.heap.size ≤ b ∧ b < w9.heap.size))) (fun b hb => by rcases hb with hb | hb; (have := hbG b hb; omega); exact hb.2)
                  go_wp2_with fail
                  go_roundw
                  case rel => exact ⟨j + 1, by omega, by go_num, by rw [HPy.out, ← List.append_assoc]; exact hE9', hWz, by omega, bm9, bn9⟩
                  case measure => simp [intOf] <;> omega
              · have hem : (tk true (T.part r pre j)).isEmpty = false := by
                  have := HLQ.out
                  rw [ho0, List.nil_append] at this
                  cases hh : tk true (T.part r pre j) with
                  | nil => rw [hh] at this; exact absurd this.symm hq0
                  | cons a b => rfl
                have HPn := hide (show tk true (T.part r pre (j + 1)) = tk true (T.part r pre j) by rw [hPy]; exact tk_skip (by rw [hem]; rfl))
                have hl0 : ((lq : Int) == 0) = false := by rw [beq_eq_false_iff_ne]; omega
                clear hPy hem hq0
                refine wp_region_be [0, 1, 2, 4, 5, 6, 7, 8, 3, 9, 10, 11, 12, 13, 14, 15, 16, 17, 18, 19, 20, 21, 22, 23, 24, 25] 26 wr.heap.size wr (by kernel_rfl) (by kernel_rfl) (by kernel_rfl) (fun _ _ _ _ _ h => h) (Below.refl _ _) (fun wd hBe => ?_)
                repeat (first | (apply ord_tk rfl (by rfl) (by rfl) (by rfl); (focus (intro wx hSw; have a0 := (hSw.cell (p := ⟨w.heap.size, 0, none⟩) hlm).trans r0; have a1 := (hSw.cell (p := ⟨w.heap.size, 1, none⟩) hlm).trans r1; have a2 := (hSw.cell (p := ⟨w.heap.size, 2, none⟩) hlm).trans r2; have a3 := (hSw.cell (p := ⟨w.heap.size + 1, 0, none⟩) hln).trans s0; have a4 := (hSw.cell (p := ⟨w.heap.size + 1, 1, none⟩) hln).trans s1; have a5 := (hSw.cell (p := ⟨w.heap.size + 1, 2, none⟩) hln).trans s2; have a6 := (hSw.cell (p := ⟨ab, ao + p, none⟩) hab).trans cp; go_simp; (try with_reducible rfl))); (try simp only [Act.put, List.setIfInBounds_toArray, List.set_cons_zero, List.set_cons_succ])) | (apply ord_skip rfl (by rfl) (by rfl) (fun _ => hBe); (try simp only [Act.put, List.setIfInBounds_toArray, List.set_cons_zero, List.set_cons_succ])))
                refine ord_do rfl (by rfl) (by rfl) (fun K hK => ?_)
                go_simp
                refine (hOrd.out _ (hBj.trans (hBe.mono (by omega))) (by have := hBe.size; omega)).mono ?_
                rintro e wd' ⟨rfl, hwd⟩
                replace hBe := hBe.trans (hwd.mono hBe.size)
                clear hwd
                refine hK.out _ _ (fun _ => hBe) ?_
                (try simp only [Act.put, List.setIfInBounds_toArray, List.set_cons_zero, List.set_cons_succ])
                clear hK K
                repeat (first | (apply ord_tk rfl (by rfl) (by rfl) (by rfl); (focus (intro wx hSw; have a0 := (hSw.cell (p := ⟨w.heap.size, 0, none⟩) hlm).trans r0; have a1 := (hSw.cell (p := ⟨w.heap.size, 1, none⟩) hlm).trans r1; have a2 := (hSw.cell (p := ⟨w.heap.size, 2, none⟩) hlm).trans r2; have a3 := (hSw.cell (p := ⟨w.heap.size + 1, 0, none⟩) hln).trans s0; have a4 := (hSw.cell (p := ⟨w.heap.size + 1, 1, none⟩) hln).trans s1; have a5 := (hSw.cell (p := ⟨w.heap.size + 1, 2, none⟩) hln).trans s2; have a6 := (hSw.cell (p := ⟨ab, ao + p, none⟩) hab).trans cp; go_simp; (try with_reducible rfl))); (try simp only [Act.put, List.setIfInBounds_toArray, List.set_cons_zero, List.set_cons_succ])) | (apply ord_skip rfl (by rfl) (by rfl) (fun _ => hBe); (try simp only [Act.put, List.setIfInBounds_toArray, List.set_cons_zero, List.set_cons_succ])))
                refine ord_do rfl (by rfl) (by rfl) (fun K hK => ?_)
                go_simp
                refine (hAlk.out _ (hBj.trans (hBe.mono (by omega))) (by have := hBe.size; omega)).mono ?_
                rintro e wd' ⟨rfl, hwd⟩
                replace hBe := hBe.trans (hwd.mono hBe.size)
                clear hwd
                refine hK.out _ _ (fun _ => hBe) ?_
                (try simp only [Act.put, List.setIfInBounds_toArray, List.set_cons_zero, List.set_cons_succ])
                clear hK K
                repeat (first | (apply ord_tk rfl (by rfl) (by rfl) (by rfl); (focus (intro wx hSw; have a0 := (hSw.cell (p := ⟨w.heap.size, 0, none⟩) hlm).trans r0; have a1 := (hSw.cell (p := ⟨w.heap.size, 1, none⟩) hlm).trans r1; have a2 := (hSw.cell (p := ⟨w.heap.size, 2, none⟩) hlm).trans r2; have a3 := (hSw.cell (p := ⟨w.heap.size + 1, 0, none⟩) hln).trans s0; have a4 := (hSw.cell (p := ⟨w.heap.size + 1, 1, none⟩) hln).trans s1; have a5 := (hSw.cell (p := ⟨w.heap.size + 1, 2, none⟩) hln).trans s2; have a6 := (hSw.cell (p := ⟨ab, ao + p, none⟩) hab).trans cp; go_simp; (try with_reducible rfl))); (try simp only [Act.put, List.setIfInBounds_toArray, List.set_cons_zero, List.set_cons_succ])) | (apply ord_skip rfl (by rfl) (by rfl) (fun _ => hBe); (try simp only [Act.put, List.setIfInBounds_toArray, List.set_cons_zero, List.set_cons_succ])))
                refine ord_nil ?_
                have hBf := hBe
                clear hBe
                have hz5 := hBf.size
                have hE5 := OwL.mono (OwL.bel kp1 hoj hBf) (fun b hb => (by rcases hb with hb | hb; exact .inl hb; exact .inr ⟨hb.1, by omega⟩ : G b ∨ (w3.heap.size ≤ b ∧ b < wd'.heap.size))) (fun b hb => by rcases hb with hb | hb; exact Nat.lt_of_lt_of_le (hbG b hb) (Nat.le_trans hWj.size hz5); exact hb.2)
                go_wp2_with fail
                go_roundw
                case rel => exact ⟨j + 1, by omega, by go_num, by rw [HPn.out]; exact hE5, hWj.trans (Wr.of_below hBf), by omega, bm.all hBf, bn.all hBf⟩
                case measure => simp [intOf] <;> omega
      · obtain rfl : j = N := by omega
        have hfin := OwL.mono hoj (fun b hb => (by rcases hb with hb | hb; exact .inl hb; exact .inr (.inr ⟨by omega, hb.2⟩) : G b ∨ F b ∨ (w.heap.size ≤ b ∧ b < wr.heap.size))) (fun b hb => by rcases hb with hb | hb | hb; exact Nat.lt_of_lt_of_le (hbG b hb) hWj.size; exact Nat.lt_of_lt_of_le (hbF b hb) hWj.size; exact hb.2)
        have HR := hide (show T.isos (r + 1) pre = T.part r pre j by rw [T.isos_part]; unfold Two.N; rw [HN.out])
        go_wp2_with fail
        go_ret
        exact ⟨_, rfl, by rw [HR.out]; exact hfin, hWj⟩
end Go.Proofs.YtonehmjoolflfaaGreatDoor
