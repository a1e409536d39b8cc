
/- The walks of l11Leader, l11Isotropy. The walks of heldInt64SS, heldInt64SSS. The kind of a condensation: leaders, a table, a modulus and values. The walk of l11Condense. The walk of l11Condense. -/
import Derived.Test.YtbpihnpakolooaaGreatDoorCma
import Derived.WalkLawsBesides
import Derived.Test.YtbpihnpakolooaaGreatDoorNW1
import Derived.Test.YtbpihnpakolooaaGreatDoorKD0
import Derived.Test.YtbpihnpakolooaaGreatDoorNa
import Derived.Test.YtbpihnpakolooaaGreatDoorBa
import Derived.Deep.DeepCutAuto
namespace Go.Proofs.YtbpihnpakolooaaGreatDoor
open Go Go.RowKit Grp
set_option linter.unusedSimpArgs false
set_option linter.unusedVariables false
set_option maxRecDepth 100000
theorem ldr_take {os xs : List Int} {x : Int} {k : Nat} (hk : k < xs.length) : ldr os (xs.take (k + 1)) x = min (ldr os (xs.take k) x) (Ar os x (gi xs k)) := by rw [take_gi hk, ldr_snoc]
set_option maxHeartbeats 2000000 in
theorem l11Leader_any (w : World) (A : Option Addr) (n c : Nat) (os : List Int) (D : Int) (A' : Option Addr) (n' c' : Nat) (L : Option Addr) (l lc : Nat) (xs : List Int) (x : Int)
  (h : Sl w w.heap.size A n c os) (hx : Sl w w.heap.size L l lc xs) (hl : l ≤ 1048576) (hG : OkG os) (x0 : 0 ≤ x) (x1 : x ≤ 1000000) (hI : ∀ y ∈ xs, 0 ≤ y ∧ y ≤ 1000000) :
  Calls Tryz.prog 94 #[.agg #[.slice A n c, .int .i64 D, .slice A' n' c'], .slice L l lc, .int .i64 x] w (Re w (.int .i64 (ldr os xs x))) := by
 obtain rfl := hx.len
 have HI := hide hI
 clear hI
 go_enter Tryz.func94, Tryz.ntmps94
 go_wp2_with fail
 obtain ⟨W, hW⟩ : ∃ W, w.alloc (.cells #[.slice A n c, .int .i64 D, .slice A' n' c'] 26) = W := ⟨_, rfl⟩
 have hbW : Below w.heap.size w W := by rw [← hW]; exact (by repeat (first | assumption | exact Below.refl _ _ | apply below_drewN | apply Below.drew | apply Below.alloc | apply Below.setCell | omega | (focus (simp; done)) | (focus (simp; omega))))
 have hszW : w.heap.size < W.heap.size := by rw [← hW]; simp
 have hsW := hide (show W.heap.size = w.heap.size + 1 by rw [← hW]; simp)
 have bM : Blk W w.heap.size 26 #[.slice A n c, .int .i64 D, .slice A' n' c'] := by rw [← hW]; exact Blk.new _ _ _
 have q0 : W.cell? ⟨w.heap.size, 0, none⟩ = some (.slice A n c) := by rw [← hW]; exact (Blk.new _ _ _).cell 0
 have q1 : W.cell? ⟨w.heap.size, 1, none⟩ = some (.int .i64 D) := by rw [← hW]; exact (Blk.new _ _ _).cell 1
 have q2 : W.cell? ⟨w.heap.size, 2, none⟩ = some (.slice A' n' c') := by rw [← hW]; exact (Blk.new _ _ _).cell 2
 rw [hW]
 clear hW
 have hs := (h.below hbW).more (Nat.le_of_lt hszW)
 have hxs := (hx.below hbW).more (Nat.le_of_lt hszW)
 have hB0 := Below.refl W.heap.size W
 go_wp2_with fail
 have H0 := hide (show ldr os (xs.take 0) x = x from rfl)
 go_loopw [7, 8] (fun o i wr => ∃ (k : Nat) (a : Int), k ≤ xs.length ∧ o = .int .i64 a ∧ i = .int .i64 k ∧ Hid (a = ldr os (xs.take k) x) ∧ Below W.heap.size W wr) (fun _ i _ => xs.length - (intOf i).toNat)
 case atStart => exact ⟨0, x, by omega, rfl, rfl, hide H0.out.symm, hB0⟩
 case round =>
  clear hB0
  obtain ⟨k, a, hk, rfl, rfl, hA, hBe⟩ := hrel
  by_cases hlt : k < xs.length
  ·obtain ⟨b, off, rfl, hb, hc⟩ := hxs.at_ (by omega)
   have c1 := hc k hlt
   clear hc
   obtain ⟨y0, y1⟩ := HI.out _ (gi_mem hlt)
   have hT := hide (show (if Ar os x (gi xs k) < a then Ar os x (gi xs k) else a) = ldr os (xs.take (k + 1)) x by rw [ldr_take hlt, ← hA.out]; split <;> omega)
   obtain ⟨y, ey⟩ : ∃ y, gi xs k = y := ⟨_, rfl⟩
   rw [ey] at c1 y0 y1 hT
   clear ey
   have hadd := fun W' h' => l10Add_any W' W.heap.size A n c os x y h' hG x0 x1 y0 y1
   obtain ⟨s, es⟩ : ∃ s, Ar os x y = s := ⟨_, rfl⟩
   rw [es] at hadd hT
   clear es
   have hsl := fun W' (h' : Below W.heap.size W W') => hs.below h'
   have hz0 : w.heap.size < wr.heap.size := Nat.lt_of_lt_of_le hszW hBe.size
   have hbR : b < wr.heap.size := Nat.lt_of_lt_of_le hb hBe.size
   have y0' := (hBe.cell (p := ⟨w.heap.size, 0, none⟩) hszW).trans q0
   have c2 := (hBe.cell (p := ⟨b, off + k, none⟩) hb).trans c1
   have hB1 := hBe
   clear c1
   go_wp2_with fail
   refine wp_region_be [0, 1, 2, 3, 4, 5, 6, 7, 8, 9, 10] 10 wr.heap.size wr (by kernel_rfl) (by kernel_rfl) (by kernel_rfl) (fun _ _ _ _ _ h => h) (Below.refl _ _) (fun wd hBe => ?_)
   repeat (first | (apply ord_tk rfl (by rfl) (by rfl) (by rfl); (focus (intro wx hSw; have r0 := (hSw.cell (p := ⟨w.heap.size, 0, none⟩) hz0).trans y0'; have r2 := (hSw.cell (p := ⟨b, off + k, none⟩) hbR).trans c2; go_simp; (try with_reducible rfl))); (try simp only [Act.put, List.setIfInBounds_toArray, List.set_cons_zero, List.set_cons_succ])) | (apply ord_skip rfl (by rfl) (by rfl) (fun _ => hBe); (try simp only [Act.put, List.setIfInBounds_toArray, List.set_cons_zero, List.set_cons_succ])))
   refine ord_do rfl (by rfl) (by rfl) (fun K hK => ?_)
   go_simp
   refine ((hadd _ (hsl _ (hB1.trans (hBe.mono hB1.size)))).mono fun _ _ h => Qt.re h).mono ?_
   rintro e wd' ⟨rfl, hwd⟩
   replace hBe := hBe.trans (hwd.mono hBe.size)
   clear hwd
   refine hK.out _ _ (fun _ => hBe) ?_
   (try simp only [Act.put, List.setIfInBounds_toArray, List.set_cons_zero, List.set_cons_succ])
   clear hK K
   repeat (first | (apply ord_tk rfl (by rfl) (by rfl) (by rfl); (focus (intro wx hSw; have r0 := hz0; go_simp; (try with_reducible rfl))); (try simp only [Act.put, List.setIfInBounds_toArray, List.set_cons_zero, List.set_cons_succ])) | (apply ord_skip rfl (by rfl) (by rfl) (fun _ => hBe); (try simp only [Act.put, List.setIfInBounds_toArray, List.set_cons_zero, List.set_cons_succ])))
   refine ord_do rfl (by rfl) (by rfl) (fun K hK => ?_)
   go_simp
   refine hK.out _ _ (fun _ => hBe) ?_
   (try simp only [Act.put, List.setIfInBounds_toArray, List.set_cons_zero, List.set_cons_succ])
   clear hK K
   refine ord_do rfl (by rfl) (by rfl) (fun K hK => ?_)
   go_simp
   refine hK.out _ _ (fun h => absurd h (by omega)) ?_
   (try simp only [Act.put, List.setIfInBounds_toArray, List.set_cons_zero, List.set_cons_succ])
   clear hK K
   refine ord_nil ?_
   replace hBe := hB1.trans (hBe.mono hB1.size)
   clear hB1 y0' c2 hz0 hbR
   go_wp2_with fail
   go_roundw
   case rel => exact ⟨k + 1, _, by omega, rfl, by go_num, hT, hBe⟩
   case measure => simp [intOf] <;> omega
  ·obtain rfl : k = xs.length := by omega
   have hE := hide (show a = ldr os xs x by rw [hA.out, List.take_length])
   go_wp2_with fail
   go_ret
   exact ⟨by rw [hE.out]; rfl, hbW.trans (hBe.mono (Nat.le_of_lt hszW))⟩
/-- The code of a metric and an isotropic subgroup. -/
noncomputable def codeI (os : List Int) (D : Int) (vs xs : List Int) : Int := if codeS os D vs xs = 0 then if isoB vs xs = true then 0 else 5 else codeS os D vs xs
theorem codeI_0 {os vs xs : List Int} {D : Int} (h : codeI os D vs xs = 0) : Cs os D vs xs ∧ IsLst (prodL os) xs := by
 unfold codeI at h
 by_cases h1 : codeS os D vs xs = 0
 ·rw [if_pos h1] at h
  by_cases h2 : isoB vs xs = true
  ·exact ⟨Cs.of h1 h2, (codeS_0 h1).2.1⟩
  ·rw [if_neg h2] at h; omega
 ·rw [if_neg h1] at h; exact absurd h h1

abbrev quotient_T := List Int × List (List Int) × Int × List Int
def quotient_R (w : World) (B : Nat) (v : Value) (x : quotient_T) : Prop := ∃ A n c F p f D m e, v = .agg #[.slice A n c, .slice F p f, .int .i64 x.2.2.1, .slice D m e] ∧ Sl w B A n c x.1 ∧ Sl2 w B F p f x.2.1 ∧ Sl w B D m e x.2.2.2
def quotient_E : Own quotient_T := fun w v x fp => ∃ u1 u2 u3 F1 F2 F3, v = .agg #[u1, u2, .int .i64 x.2.2.1, u3] ∧ E1 w u1 x.1 F1 ∧ E2 w u2 x.2.1 F2 ∧ E1 w u3 x.2.2.2 F3 ∧ (∀ b, F1 b → F2 b → False) ∧ (∀ b, F1 b → F3 b → False) ∧ (∀ b, F2 b → F3 b → False) ∧ (∀ b, F1 b → fp b) ∧ (∀ b, F2 b → fp b) ∧ (∀ b, F3 b → fp b) ∧ (∀ b, fp b → b < w.heap.size)
section
variable {w w' : World} {B B' : Nat} {v : Value} {x : quotient_T} {fp fq : Nat → Prop}
theorem quotient_form (h : quotient_R w B v x) : ∃ A n c F p f z D m e, v = .agg #[.slice A n c, .slice F p f, .int .i64 z, .slice D m e] ∧ x.2.2.1 = z := by
 obtain ⟨A, n, c, F, p, f, D, m, e, h1, _⟩ := h
 exact ⟨A, n, c, F, p, f, _, D, m, e, h1, rfl⟩
theorem quotient_rd (h : quotient_E w v x fp) : quotient_R w w.heap.size v x := by
 obtain ⟨u1, u2, u3, F1, F2, F3, rfl, h1, h2, h3, _⟩ := h
 obtain ⟨A, c, rfl, hs⟩ := h1.sl
 obtain ⟨F, f, rfl, hs2⟩ := E2.sl2 h2
 obtain ⟨D, e, rfl, hs3⟩ := h3.sl
 exact ⟨A, _, c, F, _, f, D, _, e, rfl, hs, hs2, hs3⟩
theorem quotient_kp : Kp quotient_E := by
 intro w w' v x fp h hk hs
 obtain ⟨u1, u2, u3, F1, F2, F3, e, h1, h2, h3, a1, a2, a3, s1, s2, s3, hb⟩ := h
 exact ⟨u1, u2, u3, F1, F2, F3, e, kp1 _ _ _ _ _ h1 (fun b hb => hk b (s1 b hb)) hs, kp2 _ _ _ _ _ h2 (fun b hb => hk b (s2 b hb)) hs, kp1 _ _ _ _ _ h3 (fun b hb => hk b (s3 b hb)) hs, a1, a2, a3, s1, s2, s3, fun b h => Nat.lt_of_lt_of_le (hb b h) hs⟩
theorem quotient_bd (h : quotient_E w v x fp) : ∀ b, fp b → b < w.heap.size := by
 obtain ⟨_, _, _, _, _, _, _, _, _, _, _, _, _, _, _, _, h6⟩ := h
 exact h6
theorem quotient_wr (h : quotient_E w v x fp) (hw : Wr w w' fq) (hd : ∀ b, fp b → fq b → False) : quotient_E w' v x fp := quotient_kp _ _ _ _ _ h (fun b hb => hw.block b (quotient_bd h b hb) (hd b hb)) hw.size
/-- A condensation with nothing in it. -/
theorem quotient_none (w : World) (fp : Nat → Prop) (hb : ∀ b, fp b → b < w.heap.size) (q : Int) : quotient_E w (.agg #[.slice none 0 0, .slice none 0 0, .int .i64 q, .slice none 0 0]) ([], [], q, []) fp := by
 have hn : ∀ b, False → b < w.heap.size := fun _ h => h.elim
 exact ⟨_, _, _, fun _ => False, fun _ => False, fun _ => False, rfl, E1.nil w _ hn, ⟨⟨[], fun _ _ => False, World.ownsRow_nil _ _ _ _, rfl, fun k u x h => by simp at h, fun _ _ _ h => h.elim, fun _ _ h => h.elim⟩, fun b hb => by simp [Value.ownBlock] at hb, hn⟩, E1.nil w _ hn, fun _ h => h.elim, fun _ h => h.elim, fun _ h => h.elim, fun _ h => h.elim, fun _ h => h.elim, fun _ h => h.elim, hb⟩
end
/-- What a metric condenses to. -/
def ldO (os : List Int) (D : Int) (vs xs : List Int) : List Int := ldL os xs (ortL os D vs xs vs.length) (ortL os D vs xs vs.length).length
def condQ (os : List Int) (D : Int) (vs xs : List Int) : quotient_T := (ldO os D vs xs, ctab os xs (ldO os D vs xs), D, (ldO os D vs xs).map (Vl vs))
/-- Leaders and values under construction in the struct of block g. -/
structure QIn (w : World) (g : Nat) (vO vL vV : Value) (O L V : List Int) (q : Int) (wr : World) : Prop where
 orth : Ow wr w.heap.size vO O
 out : Blk wr g 31 #[vL, .slice none 0 0, .int .i64 q, vV]
 lds : Ow wr w.heap.size vL L
 vals : Ow wr w.heap.size vV V
 aO : Apart vO vL
 aV : Apart vO vV
 aL : Apart vL vV
 below : Below w.heap.size w wr
section
variable {w wr w1 w2 : World} {g : Nat} {vO vL vV : Value} {O L V : List Int} {q : Int}
theorem QIn.all (h : QIn w g vO vL vV O L V q wr) (hb : Below wr.heap.size wr w1) : QIn w g vO vL vV O L V q w1 :=
 ⟨h.orth.below hb, h.out.all hb, h.lds.below hb, h.vals.below hb, h.aO, h.aV, h.aL, h.below.trans (hb.mono h.below.size)⟩
theorem QIn.stepL (h : QIn w g vO vL vV O L V q wr) {wa : World} (hba : Below wr.heap.size wr wa) {y : Int} {H g' cap : Nat} (hH : wr.heap.size ≤ H) (hP : Pushed wa w.heap.size vL L y H g' cap w2) (hg : w.heap.size ≤ g) :
  QIn w g vO (.slice (some ⟨g', 0, none⟩) (L.length + 1) cap) vV O (L ++ [y]) V q (w2.setCell ⟨g, 0, none⟩ (.slice (some ⟨g', 0, none⟩) (L.length + 1) cap)) := by
 have h2 := h.all hba
 have hO : ∀ b, vO.ownBlock = some b → b ≠ H + 1 := fun b hb => by have := h.orth.lt b hb; omega
 have hV : ∀ b, vV.ownBlock = some b → b ≠ H + 1 := fun b hb => by have := h.vals.lt b hb; omega
 have o2 : Blk w2 g 31 #[vL, .slice none 0 0, .int .i64 q, vV] := hP.blk h2.lds h2.out (by decide)
 refine ⟨(hP.far h2.orth h2.aO).setCell o2 (by decide) _ _, o2.store 0 _, hP.own.setCell o2 (by decide) _ _, (hP.far h2.vals h2.aL.symm).setCell o2 (by decide) _ _, hP.apart hO h2.aO, h2.aV, (hP.apart hV h2.aL.symm).symm, ?_⟩
 exact (h2.below.trans (hP.below h2.lds h2.below.size)).setCell hg _
theorem QIn.stepV (h : QIn w g vO vL vV O L V q wr) {wa : World} (hba : Below wr.heap.size wr wa) {y : Int} {H g' cap : Nat} (hH : wr.heap.size ≤ H) (hP : Pushed wa w.heap.size vV V y H g' cap w2) (hg : w.heap.size ≤ g) :
  QIn w g vO vL (.slice (some ⟨g', 0, none⟩) (V.length + 1) cap) O L (V ++ [y]) q (w2.setCell ⟨g, 3, none⟩ (.slice (some ⟨g', 0, none⟩) (V.length + 1) cap)) := by
 have h2 := h.all hba
 have hO : ∀ b, vO.ownBlock = some b → b ≠ H + 1 := fun b hb => by have := h.orth.lt b hb; omega
 have hL : ∀ b, vL.ownBlock = some b → b ≠ H + 1 := fun b hb => by have := h.lds.lt b hb; omega
 have o2 : Blk w2 g 31 #[vL, .slice none 0 0, .int .i64 q, vV] := hP.blk h2.vals h2.out (by decide)
 refine ⟨(hP.far h2.orth h2.aV).setCell o2 (by decide) _ _, o2.store 3 _, (hP.far h2.lds h2.aL).setCell o2 (by decide) _ _, hP.own.setCell o2 (by decide) _ _, h2.aO, hP.apart hO h2.aV, hP.apart hL h2.aL, ?_⟩
 exact (h2.below.trans (hP.below h2.vals h2.below.size)).setCell hg _
end
/-- The table under construction in the struct of block g, behind the world W. -/
structure QTb (W : World) (g : Nat) (vL vV : Value) (q : Int) (vT : Value) (T : List (List Int)) (wr : World) : Prop where
 out : Blk wr g 31 #[vL, vT, .int .i64 q, vV]
 tab : Grow E1 24 W.heap.size wr vT T
 kept : Wr W wr (fun b => b = g)
 lt : g < W.heap.size
section
variable {W wr w1 w6 w7 : World} {g : Nat} {vL vV vT v2 : Value} {q : Int} {T T' : List (List Int)}
theorem QTb.bel (h : QTb W g vL vV q vT T wr) (hb : Below wr.heap.size wr w1) : QTb W g vL vV q vT T w1 :=
 ⟨h.out.all hb, h.tab.bel kp1 hb, h.kept.trans (Wr.of_below hb), h.lt⟩
theorem QTb.next (h : QTb W g vL vV q vT T w6) (hB : Below W.heap.size w6 w7) (hG : Grow E1 24 W.heap.size w7 v2 T') : QTb W g vL vV q v2 T' (w7.setCell ⟨g, 1, none⟩ v2) := by
 have hlt := h.lt
 have out' : Blk w7 g 31 #[vL, vT, .int .i64 q, vV] := h.out.below hB hlt
 have hw : Wr w7 (w7.setCell ⟨g, 1, none⟩ v2) (fun b => b = g) := ⟨rfl, rfl, rfl, by simp [World.setCell], fun b _ hn => Below.heap_setCell _ _ _ _ (fun e => hn (show b = g from e.symm ▸ rfl))⟩
 have h67 : Wr w6 w7 (fun b => W.heap.size ≤ b) := ⟨hB.os, hB.tape, hB.output, hB.size, fun b _ hn => hB.block b (by omega)⟩
 refine ⟨out'.store 1 _, hG.wr kp1 hw (fun b hb' => by right; omega), ?_, hlt⟩
 have hk := h.kept
 refine ⟨hw.os.trans (hB.os.trans hk.os), hw.tape.trans (hB.tape.trans hk.tape), hw.output.trans (hB.output.trans hk.output), Nat.le_trans hk.size (Nat.le_trans hB.size hw.size), fun b hb hn => ?_⟩
 rw [hw.block b (Nat.lt_of_lt_of_le hb (Nat.le_trans hk.size hB.size)) hn, hB.block b hb, hk.block b hb hn]
theorem QTb.cell (h : QTb W g vL vV q vT T wr) {p : Addr} (hp : p.block < W.heap.size) (hn : p.block ≠ g) : wr.cell? p = W.cell? p := by
 have := h.kept.block p.block hp hn
 simp [World.cell?, this]
end
def put4 (w : World) (g : Nat) (x y z u : Value) : World := (put3 w g x y z).setCell ⟨g, 3, none⟩ u
section
variable {w : World} {g : Nat} {t : TypeId} {a b c d x y z u : Value}
theorem put4_blk (h : Blk w g t #[a, b, c, d]) : Blk (put4 w g x y z u) g t #[x, y, z, u] := (((h.store 0 x).store 1 y).store 2 z).store 3 u
theorem put4_below {B : Nat} {w0 : World} (h : Below B w0 w) (hB : B ≤ g) : Below B w0 (put4 w g x y z u) := (put3_below h hB).setCell hB u
theorem put4_size : (put4 w g x y z u).heap.size = w.heap.size := by simp [put4, put3, World.setCell]
theorem put4_wr : Wr w (put4 w g x y z u) (fun b => b = g) := ⟨rfl, rfl, rfl, by rw [put4_size]; exact Nat.le_refl _, fun b _ hn => by
 unfold put4 put3
 have hne : ∀ i, b ≠ (⟨g, i, none⟩ : Addr).block := fun i e => hn e
 rw [Below.heap_setCell _ ⟨g, 3, none⟩ _ b (hne 3), Below.heap_setCell _ ⟨g, 2, none⟩ _ b (hne 2), Below.heap_setCell _ ⟨g, 1, none⟩ _ b (hne 1), Below.heap_setCell _ ⟨g, 0, none⟩ _ b (hne 0)]⟩
end
/-- The end: the struct is stored into the result's slot r. -/
theorem QTb.fin {w0 W wr : World} {B r g : Nat} {vL vV vT : Value} {L V : List Int} {q : Int} {T : List (List Int)} (h : QTb W g vL vV q vT T wr) (hb : Below w0.heap.size w0 W) (hr0 : w0.heap.size ≤ r) (hrW : r < B) (hB : B ≤ W.heap.size) (hB0 : w0.heap.size ≤ B) (hg0 : w0.heap.size ≤ g)
  (hL : Ow W B vL L) (hV : Ow W B vV V) (ha : Apart vL vV) (hLr : ∀ x ∈ L, i64ok x) (hVr : ∀ x ∈ V, i64ok x) (hLg : vL.ownBlock ≠ some g) (hVg : vV.ownBlock ≠ some g) :
  ∃ v, (.returned (.agg #[vL, vT, .int .i64 q, vV]) : Ending) = .returned v ∧ quotient_E (put4 wr r vL vT (.int .i64 q) vV) v (L, T, q, V) (fun b => w0.heap.size ≤ b ∧ b < (put4 wr r vL vT (.int .i64 q) vV).heap.size) ∧ Below w0.heap.size w0 (put4 wr r vL vT (.int .i64 q) vV) := by
 have hw : Wr wr (put4 wr r vL vT (.int .i64 q) vV) (fun b => b = r) := put4_wr
 have hsz : (put4 wr r vL vT (.int .i64 q) vV).heap.size = wr.heap.size := put4_size
 have hks := h.kept.size
 have hL1 : Ow wr B vL L := h.kept.own hL (fun b hb e => hLg (by rw [hb, e]))
 have hV1 : Ow wr B vV V := h.kept.own hV (fun b hb e => hVg (by rw [hb, e]))
 have hL2 := hw.own hL1 (fun b hb e => by have := (hL.lt b hb).1; omega)
 have hV2 := hw.own hV1 (fun b hb e => by have := (hV.lt b hb).1; omega)
 have hT : E2 wr vT T (fun b => W.heap.size ≤ b ∧ b < wr.heap.size) := h.tab.toL
 refine ⟨_, rfl, ⟨vL, vT, vV, fun b => vL.ownBlock = some b, fun b => W.heap.size ≤ b ∧ b < wr.heap.size, fun b => vV.ownBlock = some b, rfl, ⟨hL2.less (Nat.zero_le _), hLr, fun _ h => h, fun b hb => (hL2.lt b hb).2⟩,
  kp2 _ _ _ _ _ hT (fun b hb => hw.block b hb.2 (by have := hb.1; omega)) hw.size, ⟨hV2.less (Nat.zero_le _), hVr, fun _ h => h, fun b hb => (hV2.lt b hb).2⟩, fun b h1 h2 => ?_, fun b h1 h2 => ha b h1 h2, fun b h1 h2 => ?_, fun b hb => ?_, fun b hb => ?_, fun b hb => ?_, fun b hb => hb.2⟩, ?_⟩
 ·have := (hL.lt b h1).2; have := h2.1; omega
 ·have := (hV.lt b h2).2; have := h1.1; omega
 ·have := hL2.lt b hb; omega
 ·have := hb.1; have := hb.2; omega
 ·have := hV2.lt b hb; omega
 ·refine put4_below ?_ hr0
  exact hb.trans (h.kept.below (fun b hb => by omega) (by omega))
theorem owne {w : World} {B g : Nat} {v : Value} {xs : List Int} {t : TypeId} {cs : Array Value} (h : Ow w B v xs) (hb : Blk w g t cs) (hne : t ≠ 2) : v.ownBlock ≠ some g := h.blk_ne hb hne
set_option maxHeartbeats 8000000 in
theorem l11Condense_any (w : World) (A : Option Addr) (n c : Nat) (os : List Int) (D : Int) (A' : Option Addr) (n' c' : Nat) (vs : List Int) (L : Option Addr) (l lc : Nat) (xs : List Int)
  (h : Sl w w.heap.size A n c os) (h' : Sl w w.heap.size A' n' c' vs) (hx : Sl w w.heap.size L l lc xs) (hl : l ≤ 1048576) (hC : Cs os D vs xs) :
  Calls Tryz.prog 50 #[.agg #[.slice A n c, .int .i64 D, .slice A' n' c'], .slice L l lc] w (MkE quotient_E w (condQ os D vs xs)) := by
 obtain rfl := h'.len
 obtain rfl := hx.len
 obtain ⟨O, hOe⟩ : ∃ O, ortL os D vs xs vs.length = O := ⟨_, rfl⟩
 have HC := hide hC
 have HOe := hide hOe.symm
 have hG := hC.g
 have hO16 := hC.lenO hOe.symm
 have h0O : 0 ∈ O := hC.subO hOe.symm hC.zero
 have HN := hide hC.m.ok.len
 have hok := hide hC.m.ok
 have HI := hide hC.rng
 have hp16 := hG.p16
 have hQ : condQ os D vs xs = (ldL os xs O O.length, ctab os xs (ldL os xs O O.length), D, (ldL os xs O O.length).map (Vl vs)) := by unfold condQ ldO; rw [hOe]
 have HQ := hide hQ
 clear hQ hC
 go_enter Tryz.func50, Tryz.ntmps50
 go_wp2_with fail
 obtain ⟨W, hW⟩ : ∃ W, (w.alloc (.cells #[.slice A n c, .int .i64 D, .slice A' vs.length c'] 26)).alloc (.cells #[.slice none 0 0, .slice none 0 0, .int .i64 0, .slice none 0 0] 31) = W := ⟨_, rfl⟩
 have hbW : Below w.heap.size w W := by rw [← hW]; exact (by repeat (first | assumption | exact Below.refl _ _ | apply below_drewN | apply Below.drew | apply Below.alloc | apply Below.setCell | omega | (focus (simp; done)) | (focus (simp; omega))))
 have hszW : w.heap.size < W.heap.size := by rw [← hW]; simp; omega
 have hsW := hide (show W.heap.size = w.heap.size + 2 by rw [← hW]; simp)
 have bM : Blk W w.heap.size 26 #[.slice A n c, .int .i64 D, .slice A' vs.length c'] := by rw [← hW]; exact (Blk.new _ _ _).alloc _
 have bR : Blk W (w.heap.size + 1) 31 #[.slice none 0 0, .slice none 0 0, .int .i64 0, .slice none 0 0] := by rw [← hW]; exact Blk.new' _ _ _ _ (by simp)
 have q0 := bM.cell 0
 have q1 := bM.cell 1
 have q2 := bM.cell 2
 rw [hW]
 clear hW
 have hs := (h.below hbW).more (Nat.le_of_lt hszW)
 have hs' := (h'.below hbW).more (Nat.le_of_lt hszW)
 have hxs := (hx.below hbW).more (Nat.le_of_lt hszW)
 have hsl : ∀ wd, Below W.heap.size W wd → Sl wd wd.heap.size A n c os := fun wd h => (hs.below h).more h.size
 have hsv : ∀ wd, Below W.heap.size W wd → Sl wd wd.heap.size A' vs.length c' vs := fun wd h => (hs'.below h).more h.size
 have hsx : ∀ wd, Below W.heap.size W wd → Sl wd wd.heap.size L xs.length lc xs := fun wd h => (hxs.below h).more h.size
 have hort := fun W' (hb : Below W.heap.size W W') => l11Orthogonal_any W' A n c os D A' vs.length c' vs L xs.length lc xs (hsl _ hb) (hsv _ hb) (hsx _ hb) hl hok.out HI.out
 rw [hOe] at hort
 clear hOe
 go_upto_region 1 with fail
 go_cut [5, 6] (fun s5 s6 wx => ∃ g vO, s5 = .pointer (some ⟨g, 0, none⟩) ∧ s6 = vO ∧ W.heap.size ≤ g ∧ QIn W g vO (.slice none 0 0) (.slice none 0 0) O [] [] D wx)
 case first =>
  refine wp_region_bt (.one 0 (.one 1 (.one 2 (.one 3 (.one 4 (.two 5 (.one 6 (.one 7 (.one 8 .nil))) 6 (.one 5 (.one 7 (.one 8 .nil))))))))) 8 W.heap.size W (by kernel_rfl) (by kernel_rfl) (by kernel_rfl) (fun _ _ _ _ _ h => h) (Below.refl _ _) (fun wd hBe => ?_)
  repeat (first | (apply ot_tk rfl (by rfl) (by rfl) (by rfl); (focus (intro wx hSw; have r0 := (hSw.cell (p := ⟨w.heap.size, 0, none⟩) hszW).trans q0; have r1 := (hSw.cell (p := ⟨w.heap.size, 1, none⟩) hszW).trans q1; have r2 := (hSw.cell (p := ⟨w.heap.size, 2, none⟩) hszW).trans q2; go_simp; (try with_reducible rfl))); (try simp only [Act.put, List.setIfInBounds_toArray, List.set_cons_zero, List.set_cons_succ])) | (apply ot_skip rfl (by rfl) (by rfl) (fun _ => hBe); (try simp only [Act.put, List.setIfInBounds_toArray, List.set_cons_zero, List.set_cons_succ])))
  refine ot_two ?_ ?_
  ·skip
   (refine ot_do rfl (by rfl) (by rfl) (fun K hK => ?_); go_simp; refine (hort _ hBe).mono ?_; rintro e wn ⟨v, rfl, hO, hb2⟩; obtain ⟨Av, cv, rfl⟩ := hO.val; (try replace bO := bO.all hb2); replace hO := hO.less (show W.heap.size ≤ _ from hBe.size); replace hBe := hBe.trans (hb2.mono hBe.size); clear hb2; refine hK.out _ _ (fun _ => hBe) ?_; (try simp only [Act.put, List.setIfInBounds_toArray, List.set_cons_zero, List.set_cons_succ]); clear hK K)
   repeat (first | (apply ot_tk rfl (by rfl) (by rfl) (by rfl); (focus (intro wx hSw; have r0 := (hSw.cell (p := ⟨w.heap.size, 0, none⟩) hszW).trans q0; have r1 := (hSw.cell (p := ⟨w.heap.size, 1, none⟩) hszW).trans q1; have r2 := (hSw.cell (p := ⟨w.heap.size, 2, none⟩) hszW).trans q2; go_simp; (try with_reducible rfl))); (try simp only [Act.put, List.setIfInBounds_toArray, List.set_cons_zero, List.set_cons_succ])) | (apply ot_skip rfl (by rfl) (by rfl) (fun _ => hBe); (try simp only [Act.put, List.setIfInBounds_toArray, List.set_cons_zero, List.set_cons_succ])))
   (refine ot_do rfl (by rfl) (by rfl) (fun K hK => ?_); go_simp; obtain ⟨wa, g, hg, hwa, hBa, hsub, bO, hgB⟩ := be_alloc hBe 31 #[.slice none 0 0, .slice none 0 0, .int .i64 0, .slice none 0 0]; rw [hwa, hg]; clear hwa hg; (try replace hO := hO.below hsub); clear hBe hsub; have hBe := hBa; clear hBa; refine hK.out _ _ (fun _ => hBe) ?_; (try simp only [Act.put, List.setIfInBounds_toArray, List.set_cons_zero, List.set_cons_succ]); clear hK K)
   repeat (first | (apply ot_tk rfl (by rfl) (by rfl) (by rfl); (focus (intro wx hSw; have r0 := (hSw.cell (p := ⟨w.heap.size, 0, none⟩) hszW).trans q0; have r1 := (hSw.cell (p := ⟨w.heap.size, 1, none⟩) hszW).trans q1; have r2 := (hSw.cell (p := ⟨w.heap.size, 2, none⟩) hszW).trans q2; go_simp; (try with_reducible rfl))); (try simp only [Act.put, List.setIfInBounds_toArray, List.set_cons_zero, List.set_cons_succ])) | (apply ot_skip rfl (by rfl) (by rfl) (fun _ => hBe); (try simp only [Act.put, List.setIfInBounds_toArray, List.set_cons_zero, List.set_cons_succ])))
   have f0 := bO.frozen 0
   have f1 := bO.frozen 1
   have f2 := bO.frozen 2
   have f3 := bO.frozen 3
   have y0 := bO.cell 0
   have y1 := bO.cell 1
   have y2 := bO.cell 2
   have y3 := bO.cell 3
   have hpw : Wr wa (put4 wa g (.slice none 0 0) (.slice none 0 0) (.int .i64 D) (.slice none 0 0)) (fun b => b = g) := put4_wr
   have hI : QIn W g (.slice Av O.length cv) (.slice none 0 0) (.slice none 0 0) O [] [] D (put4 wa g (.slice none 0 0) (.slice none 0 0) (.int .i64 D) (.slice none 0 0)) :=
    ⟨hpw.own hO (fun b hb e => owne hO bO (by decide) (by rw [hb, e])), put4_blk bO, Ow.nil _ _, Ow.nil _ _, fun b hb => by simp [Value.ownBlock], fun b hb => by simp [Value.ownBlock], fun b hb => by simp [Value.ownBlock], put4_below hBe hgB⟩
   unfold put4 put3 at hI
   have HI := hide hI
   have hBz := put4_below (x := .slice none 0 0) (y := .slice none 0 0) (z := .int .i64 D) (u := .slice none 0 0) hBe hgB
   unfold put4 put3 at hBz
   have HBz := hide hBz
   clear hI hpw hBz
   refine ot_do rfl (by rfl) (by rfl) (fun K hK => ?_)
   go_simp
   refine hK.out _ _ (fun _ => HBz.out) ?_
   (try simp only [Act.put, List.setIfInBounds_toArray, List.set_cons_zero, List.set_cons_succ])
   clear hK K
   refine ot_do rfl (by rfl) (by rfl) (fun K hK => ?_)
   go_simp
   refine hK.out _ _ (fun h => absurd h (by omega)) ?_
   (try simp only [Act.put, List.setIfInBounds_toArray, List.set_cons_zero, List.set_cons_succ])
   clear hK K
   refine ot_nil ?_
   go_wp2_with fail
   go_meet
   exact ⟨g, _, rfl, rfl, hgB, HI.out⟩
  ·skip
   (refine ot_do rfl (by rfl) (by rfl) (fun K hK => ?_); go_simp; obtain ⟨wa, g, hg, hwa, hBa, hsub, bO, hgB⟩ := be_alloc hBe 31 #[.slice none 0 0, .slice none 0 0, .int .i64 0, .slice none 0 0]; rw [hwa, hg]; clear hwa hg; (try replace hO := hO.below hsub); clear hBe hsub; have hBe := hBa; clear hBa; refine hK.out _ _ (fun _ => hBe) ?_; (try simp only [Act.put, List.setIfInBounds_toArray, List.set_cons_zero, List.set_cons_succ]); clear hK K)
   repeat (first | (apply ot_tk rfl (by rfl) (by rfl) (by rfl); (focus (intro wx hSw; have r0 := (hSw.cell (p := ⟨w.heap.size, 0, none⟩) hszW).trans q0; have r1 := (hSw.cell (p := ⟨w.heap.size, 1, none⟩) hszW).trans q1; have r2 := (hSw.cell (p := ⟨w.heap.size, 2, none⟩) hszW).trans q2; go_simp; (try with_reducible rfl))); (try simp only [Act.put, List.setIfInBounds_toArray, List.set_cons_zero, List.set_cons_succ])) | (apply ot_skip rfl (by rfl) (by rfl) (fun _ => hBe); (try simp only [Act.put, List.setIfInBounds_toArray, List.set_cons_zero, List.set_cons_succ])))
   (refine ot_do rfl (by rfl) (by rfl) (fun K hK => ?_); go_simp; refine (hort _ hBe).mono ?_; rintro e wn ⟨v, rfl, hO, hb2⟩; obtain ⟨Av, cv, rfl⟩ := hO.val; (try replace bO := bO.all hb2); replace hO := hO.less (show W.heap.size ≤ _ from hBe.size); replace hBe := hBe.trans (hb2.mono hBe.size); clear hb2; refine hK.out _ _ (fun _ => hBe) ?_; (try simp only [Act.put, List.setIfInBounds_toArray, List.set_cons_zero, List.set_cons_succ]); clear hK K)
   repeat (first | (apply ot_tk rfl (by rfl) (by rfl) (by rfl); (focus (intro wx hSw; have r0 := (hSw.cell (p := ⟨w.heap.size, 0, none⟩) hszW).trans q0; have r1 := (hSw.cell (p := ⟨w.heap.size, 1, none⟩) hszW).trans q1; have r2 := (hSw.cell (p := ⟨w.heap.size, 2, none⟩) hszW).trans q2; go_simp; (try with_reducible rfl))); (try simp only [Act.put, List.setIfInBounds_toArray, List.set_cons_zero, List.set_cons_succ])) | (apply ot_skip rfl (by rfl) (by rfl) (fun _ => hBe); (try simp only [Act.put, List.setIfInBounds_toArray, List.set_cons_zero, List.set_cons_succ])))
   have f0 := bO.frozen 0
   have f1 := bO.frozen 1
   have f2 := bO.frozen 2
   have f3 := bO.frozen 3
   have y0 := bO.cell 0
   have y1 := bO.cell 1
   have y2 := bO.cell 2
   have y3 := bO.cell 3
   have hpw : Wr wn (put4 wn g (.slice none 0 0) (.slice none 0 0) (.int .i64 D) (.slice none 0 0)) (fun b => b = g) := put4_wr
   have hI : QIn W g (.slice Av O.length cv) (.slice none 0 0) (.slice none 0 0) O [] [] D (put4 wn g (.slice none 0 0) (.slice none 0 0) (.int .i64 D) (.slice none 0 0)) :=
    ⟨hpw.own hO (fun b hb e => owne hO bO (by decide) (by rw [hb, e])), put4_blk bO, Ow.nil _ _, Ow.nil _ _, fun b hb => by simp [Value.ownBlock], fun b hb => by simp [Value.ownBlock], fun b hb => by simp [Value.ownBlock], put4_below hBe hgB⟩
   unfold put4 put3 at hI
   have HI := hide hI
   have hBz := put4_below (x := .slice none 0 0) (y := .slice none 0 0) (z := .int .i64 D) (u := .slice none 0 0) hBe hgB
   unfold put4 put3 at hBz
   have HBz := hide hBz
   clear hI hpw hBz
   refine ot_do rfl (by rfl) (by rfl) (fun K hK => ?_)
   go_simp
   refine hK.out _ _ (fun _ => HBz.out) ?_
   (try simp only [Act.put, List.setIfInBounds_toArray, List.set_cons_zero, List.set_cons_succ])
   clear hK K
   refine ot_do rfl (by rfl) (by rfl) (fun K hK => ?_)
   go_simp
   refine hK.out _ _ (fun h => absurd h (by omega)) ?_
   (try simp only [Act.put, List.setIfInBounds_toArray, List.set_cons_zero, List.set_cons_succ])
   clear hK K
   refine ot_nil ?_
   go_wp2_with fail
   go_meet
   exact ⟨g, _, rfl, rfl, hgB, HI.out⟩
 case rest =>
  obtain ⟨g, vO, rfl, rfl, hg, hI⟩ := hcut
  rcases hI.orth.form with ⟨_, e⟩ | ⟨bo, capo, rfl, hbo, _, _⟩
  ·rw [e] at h0O; simp at h0O
  have HL0 := hide (show ldL os xs O 0 = [] by simp [ldL])
  go_wp2_with fail
  go_loopw [7] (fun i wx => ∃ (k : Nat) (vL vV : Value) (Ls V : List Int), k ≤ O.length ∧ i = .int .i64 k ∧ Hid (Ls = ldL os xs O k) ∧ Hid (V = Ls.map (Vl vs)) ∧ QIn W g (.slice (some ⟨bo, 0, none⟩) O.length capo) vL vV O Ls V D wx) (fun i _ => O.length - (intOf i).toNat)
  case atStart => exact ⟨0, _, _, [], [], by omega, rfl, hide HL0.out.symm, hide rfl, hI⟩
  case round =>
   clear hI
   obtain ⟨k, vL, vV, Ls, V, hk, rfl, hLs, hVs, hI⟩ := hrel
   have hLl : Ls.length ≤ k := by rw [hLs.out]; exact ldL_len _ _ _ _
   have hVl : V.length ≤ k := by rw [hVs.out]; simpa using hLl
   by_cases hlt : k < O.length
   ·obtain ⟨x0, x1, -⟩ := (HC.out.memO HOe.out).1 (gi_mem hlt)
    have cO := hI.orth.cell rfl hlt
    have hT := hide (fun h : ldr os xs (gi O k) = gi O k => ldL_t hlt h)
    have hF := hide (fun h : ldr os xs (gi O k) ≠ gi O k => ldL_f hlt h)
    obtain ⟨x, ex⟩ : ∃ x : Nat, gi O k = (x : Int) := ⟨(gi O k).toNat, by omega⟩
    rw [ex] at x0 x1 cO hT hF
    have hEX := hide ex
    clear ex
    have hld := fun W' (hb : Below W.heap.size W W') => l11Leader_any W' A n c os D A' vs.length c' L xs.length lc xs x (hsl _ hb) (hsx _ hb) hl hG x0 (by omega) (fun y hy => ⟨(HI.out y hy).1, by have := (HI.out y hy).2; omega⟩)
    obtain ⟨e, he⟩ : ∃ e, ldr os xs (x : Int) = e := ⟨_, rfl⟩
    rw [he] at hld hT hF
    clear he
    have hBI := hI.below
    have hzW := hBI.size
    have hzO := (hI.orth.lt bo rfl).2
    have p0 := (hBI.cell (p := ⟨w.heap.size, 0, none⟩) hszW).trans q0
    have p1 := (hBI.cell (p := ⟨w.heap.size, 1, none⟩) hszW).trans q1
    have p2 := (hBI.cell (p := ⟨w.heap.size, 2, none⟩) hszW).trans q2
    have hz0 : w.heap.size < wr.heap.size := Nat.lt_of_lt_of_le hszW hzW
    by_cases hex : e = x
    ·have t1 : (e == (x : Int)) = true := by simpa using hex
     have hTT := hide (hT.out hex)
     clear hT hF hex
     go_wp2_with fail
     refine wp_region_be [0, 1, 2, 3, 4, 5, 7, 8, 9, 10, 6, 11] 12 wr.heap.size wr (by kernel_rfl) (by kernel_rfl) (by kernel_rfl) (fun _ _ _ _ _ h => h) (Below.refl _ _) (fun wd hBe => ?_)
     repeat (first | (apply ord_tk rfl (by rfl) (by rfl) (by rfl); (focus (intro wx hSw; have r0 := (hSw.cell (p := ⟨w.heap.size, 0, none⟩) hz0).trans p0; have r1 := (hSw.cell (p := ⟨w.heap.size, 1, none⟩) hz0).trans p1; have r2 := (hSw.cell (p := ⟨w.heap.size, 2, none⟩) hz0).trans p2; have r3 := (hSw.cell (p := ⟨bo, k, none⟩) hzO).trans cO; go_simp; (try with_reducible rfl))); (try simp only [Act.put, List.setIfInBounds_toArray, List.set_cons_zero, List.set_cons_succ])) | (apply ord_skip rfl (by rfl) (by rfl) (fun _ => hBe); (try simp only [Act.put, List.setIfInBounds_toArray, List.set_cons_zero, List.set_cons_succ])))
     refine ord_do rfl (by rfl) (by rfl) (fun K hK => ?_)
     go_simp
     refine (hld _ (hBI.trans (hBe.mono hzW))).mono ?_
     rintro e wd' ⟨rfl, hwd⟩
     replace hBe := hBe.trans (hwd.mono hBe.size)
     clear hwd
     refine hK.out _ _ (fun _ => hBe) ?_
     (try simp only [Act.put, List.setIfInBounds_toArray, List.set_cons_zero, List.set_cons_succ])
     clear hK K
     repeat (first | (apply ord_tk rfl (by rfl) (by rfl) (by rfl); (focus (intro wx hSw; have r3 := (hSw.cell (p := ⟨bo, k, none⟩) hzO).trans cO; go_simp; (try with_reducible rfl))); (try simp only [Act.put, List.setIfInBounds_toArray, List.set_cons_zero, List.set_cons_succ])) | (apply ord_skip rfl (by rfl) (by rfl) (fun _ => hBe); (try simp only [Act.put, List.setIfInBounds_toArray, List.set_cons_zero, List.set_cons_succ])))
     refine ord_nil ?_
     have hI2 := hI.all hBe
     clear hBe hI hBI hzW hzO p0 p1 p2 hz0 cO hld
     go_wp2_with fail
     obtain ⟨w4, rfl⟩ : ∃ w4, w4 = wd' := ⟨_, rfl⟩
     have hs4 := hI2.below.size
     have hsd : w4.drew.heap.size = w4.heap.size := rfl
     have hco := hI2.orth.cell rfl hlt
     rw [hEX.out] at hco
     refine wp_region_ord [0, 1, 2, 3, 4, 5, 6, 7, 8, 9] 8 (fun w' => w'.cell? ⟨g, 0, none⟩ = some vL ∧ w'.cell? ⟨bo, k, none⟩ = some (.int .i64 x)) (by kernel_rfl) (by kernel_rfl) (by kernel_rfl) (fun _ _ _ _ _ h => h) ⟨hI2.out.cell 0, hco⟩ ?_
     repeat (apply ord_take rfl (by rfl) (by rfl); (focus (intro w hSw; (try dsimp only at hSw); go_simp; (try with_reducible rfl))); (try simp only [Act.put, List.setIfInBounds_toArray, List.set_cons_zero, List.set_cons_succ]))
     refine ord_do rfl (by rfl) (by rfl) (fun K hK => ?_)
     go_simp
     have hba : Below w4.heap.size w4 (w4.drew.alloc (.cells #[.int .i64 x] 2)) := ((Below.refl _ _).drew).alloc (Nat.le_refl _) _
     have hJ := hI2.all hba
     have hcx := hJ.orth.cell rfl hlt
     rw [hEX.out] at hcx
     refine hK.out _ _ (fun _ => ⟨hJ.out.cell 0, hcx⟩) ?_
     (try simp only [Act.put, List.setIfInBounds_toArray, List.set_cons_zero, List.set_cons_succ])
     clear hK K
     refine ord_do rfl (by rfl) (by rfl) (fun K hK => ?_)
     refine wp_push _ _ _ (by rfl) W.heap.size vL Ls (by rfl) hJ.lds _ w4.heap.size _ (by rfl) (Blk.new _ _ _) (by omega) (by simp; omega) (by simp) ?_
     intro g2 cap w5 hP
     have o2 : Blk w5 g 31 #[vL, .slice none 0 0, .int .i64 D, vV] := hP.blk hJ.lds hJ.out (by decide)
     have hO2 := (hP.far hJ.orth hJ.aO).cell rfl hlt
     rw [hEX.out] at hO2
     refine hK.out _ _ (fun _ => ⟨o2.cell 0, hO2⟩) ?_
     (try simp only [Act.put, List.setIfInBounds_toArray, List.set_cons_zero, List.set_cons_succ])
     clear hK K
     refine ord_do rfl (by rfl) (by rfl) (fun K hK => ?_)
     go_simp
     refine hK.out _ _ (fun h => absurd h (by omega)) ?_
     (try simp only [Act.put, List.setIfInBounds_toArray, List.set_cons_zero, List.set_cons_succ])
     clear hK K
     have c2' := o2.cell 0
     have f2' := o2.frozen 0
     have hN := hI2.stepL hba (Nat.le_refl _) hP hg
     clear hJ hO2 hP o2 hI2 hba
     refine ord_do rfl (by rfl) (by rfl) (fun K hK => ?_)
     go_simp
     refine hK.out _ _ (fun h => absurd h (by omega)) ?_
     (try simp only [Act.put, List.setIfInBounds_toArray, List.set_cons_zero, List.set_cons_succ])
     clear hK K
     refine ord_nil ?_
     clear c2' f2'
     obtain ⟨w6, hw6⟩ : ∃ w6, w5.setCell ⟨g, 0, none⟩ (.slice (some ⟨g2, 0, none⟩) (Ls.length + 1) cap) = w6 := ⟨_, rfl⟩
     rw [hw6] at hN ⊢
     clear hw6
     go_wp2_with fail
     have hxN : x < vs.length := by have := HN.out; omega
     obtain ⟨bv, ov, rfl, hbv, hcv⟩ := hs'.at_ (by omega)
     have cv0 := hcv x hxN
     have hV1 := hide (show V ++ [gi vs x] = (Ls ++ [(x : Int)]).map (Vl vs) by rw [hVs.out]; simp [Vl])
     have hL1 := hide (show Ls ++ [(x : Int)] = ldL os xs O (k + 1) by rw [hTT.out, ← hLs.out])
     obtain ⟨v, ev⟩ : ∃ v, gi vs x = v := ⟨_, rfl⟩
     rw [ev] at cv0 hV1
     clear hcv ev
     have HR := hide (show ∀ wx, Below W.heap.size W wx → wx.cell? ⟨w.heap.size, 2, none⟩ = some (.slice (some ⟨bv, ov, none⟩) vs.length c') ∧ wx.cell? ⟨bv, ov + x, none⟩ = some (.int .i64 v) from fun wx hwx => ⟨(hwx.cell (p := ⟨w.heap.size, 2, none⟩) hszW).trans q2, (hwx.cell (p := ⟨bv, ov + x, none⟩) hbv).trans cv0⟩)
     have hco := hN.orth.cell rfl hlt
     rw [hEX.out] at hco
     have hx0 : 0 ≤ (x : Int) := by omega
     have hxN' : (x : Int) < (vs.length : Int) := by omega
     refine wp_region_ord [0, 1, 2, 3, 4, 5, 6, 7, 8, 9, 10, 11, 12, 13] 12 (fun w' => w'.cell? ⟨g, 3, none⟩ = some vV ∧ w'.cell? ⟨bo, k, none⟩ = some (.int .i64 x) ∧ w'.cell? ⟨w.heap.size, 2, none⟩ = some (.slice (some ⟨bv, ov, none⟩) vs.length c') ∧ w'.cell? ⟨bv, ov + x, none⟩ = some (.int .i64 v)) (by kernel_rfl) (by kernel_rfl) (by kernel_rfl) (fun _ _ _ _ _ h => h) ⟨hN.out.cell 3, hco, HR.out _ hN.below.drew⟩ ?_
     repeat (apply ord_take rfl (by rfl) (by rfl); (focus (intro w hSw; (try dsimp only at hSw); go_simp; (try with_reducible rfl))); (try simp only [Act.put, List.setIfInBounds_toArray, List.set_cons_zero, List.set_cons_succ]))
     refine ord_do rfl (by rfl) (by rfl) (fun K hK => ?_)
     go_simp
     have hs6 := hN.below.size
     have hba : Below w6.heap.size w6 (w6.drew.alloc (.cells #[.int .i64 v] 2)) := ((Below.refl _ _).drew).alloc (Nat.le_refl _) _
     have hJ := hN.all hba
     have hcx := hJ.orth.cell rfl hlt
     rw [hEX.out] at hcx
     refine hK.out _ _ (fun _ => ⟨hJ.out.cell 3, hcx, HR.out _ hJ.below⟩) ?_
     (try simp only [Act.put, List.setIfInBounds_toArray, List.set_cons_zero, List.set_cons_succ])
     clear hK K
     refine ord_do rfl (by rfl) (by rfl) (fun K hK => ?_)
     refine wp_push _ _ _ (by rfl) W.heap.size vV V (by rfl) hJ.vals _ w6.heap.size _ (by rfl) (Blk.new _ _ _) (by omega) (by simp; omega) (by simp) ?_
     intro g3 cap3 w7 hP
     have o2 := hP.blk hJ.vals hJ.out (by decide)
     have hO2 := (hP.far hJ.orth hJ.aV).cell rfl hlt
     have hB2 := hJ.below.trans (hP.below hJ.vals hJ.below.size)
     rw [hEX.out] at hO2
     refine hK.out _ _ (fun _ => ⟨o2.cell 3, hO2, HR.out _ hB2⟩) ?_
     (try simp only [Act.put, List.setIfInBounds_toArray, List.set_cons_zero, List.set_cons_succ])
     clear hK K
     refine ord_do rfl (by rfl) (by rfl) (fun K hK => ?_)
     go_simp
     refine hK.out _ _ (fun h => absurd h (by omega)) ?_
     (try simp only [Act.put, List.setIfInBounds_toArray, List.set_cons_zero, List.set_cons_succ])
     clear hK K
     have c2' := o2.cell 3
     have f2' := o2.frozen 3
     have hN2 := hN.stepV hba (Nat.le_refl _) hP hg
     clear hJ hO2 hP o2 hN hba hB2
     refine ord_do rfl (by rfl) (by rfl) (fun K hK => ?_)
     go_simp
     refine hK.out _ _ (fun h => absurd h (by omega)) ?_
     (try simp only [Act.put, List.setIfInBounds_toArray, List.set_cons_zero, List.set_cons_succ])
     clear hK K
     refine ord_nil ?_
     clear c2' f2'
     obtain ⟨w8, hw8⟩ : ∃ w8, w7.setCell ⟨g, 3, none⟩ (.slice (some ⟨g3, 0, none⟩) (V.length + 1) cap3) = w8 := ⟨_, rfl⟩
     rw [hw8] at hN2 ⊢
     clear hw8
     go_wp2_with fail
     go_roundw
     case rel => exact ⟨k + 1, _, _, _, _, by omega, by go_num, hL1, hV1, hN2⟩
     case measure => simp [intOf] <;> omega
    ·have t1 : (e == (x : Int)) = false := by simpa using hex
     have hFF := hide (hF.out hex)
     clear hT hF hex
     go_wp2_with fail
     refine wp_region_be [0, 1, 2, 3, 4, 5, 7, 8, 9, 10, 6, 11] 12 wr.heap.size wr (by kernel_rfl) (by kernel_rfl) (by kernel_rfl) (fun _ _ _ _ _ h => h) (Below.refl _ _) (fun wd hBe => ?_)
     repeat (first | (apply ord_tk rfl (by rfl) (by rfl) (by rfl); (focus (intro wx hSw; have r0 := (hSw.cell (p := ⟨w.heap.size, 0, none⟩) hz0).trans p0; have r1 := (hSw.cell (p := ⟨w.heap.size, 1, none⟩) hz0).trans p1; have r2 := (hSw.cell (p := ⟨w.heap.size, 2, none⟩) hz0).trans p2; have r3 := (hSw.cell (p := ⟨bo, k, none⟩) hzO).trans cO; go_simp; (try with_reducible rfl))); (try simp only [Act.put, List.setIfInBounds_toArray, List.set_cons_zero, List.set_cons_succ])) | (apply ord_skip rfl (by rfl) (by rfl) (fun _ => hBe); (try simp only [Act.put, List.setIfInBounds_toArray, List.set_cons_zero, List.set_cons_succ])))
     refine ord_do rfl (by rfl) (by rfl) (fun K hK => ?_)
     go_simp
     refine (hld _ (hBI.trans (hBe.mono hzW))).mono ?_
     rintro e wd' ⟨rfl, hwd⟩
     replace hBe := hBe.trans (hwd.mono hBe.size)
     clear hwd
     refine hK.out _ _ (fun _ => hBe) ?_
     (try simp only [Act.put, List.setIfInBounds_toArray, List.set_cons_zero, List.set_cons_succ])
     clear hK K
     repeat (first | (apply ord_tk rfl (by rfl) (by rfl) (by rfl); (focus (intro wx hSw; have r3 := (hSw.cell (p := ⟨bo, k, none⟩) hzO).trans cO; go_simp; (try with_reducible rfl))); (try simp only [Act.put, List.setIfInBounds_toArray, List.set_cons_zero, List.set_cons_succ])) | (apply ord_skip rfl (by rfl) (by rfl) (fun _ => hBe); (try simp only [Act.put, List.setIfInBounds_toArray, List.set_cons_zero, List.set_cons_succ])))
     refine ord_nil ?_
     have hI2 := hI.all hBe
     clear hBe hI hBI hzW hzO p0 p1 p2 hz0 cO hld
     go_wp2_with fail
     go_roundw
     case rel => exact ⟨k + 1, vL, vV, Ls, V, by omega, by go_num, hide (by rw [hFF.out]; exact hLs.out), hVs, hI2⟩
     case measure => simp [intOf] <;> omega
   ·obtain rfl : k = O.length := by omega
    obtain ⟨W2, rfl⟩ : ∃ W2, W2 = wr := ⟨_, rfl⟩
    have hLr := fun x hx => HC.out.lrng HOe.out (k := O.length) x hx
    have HQ2 := HQ.out
    rw [← hLs.out] at hLr HQ2
    have HLr := hide hLr
    have HQ2 := hide HQ2
    have hne := owne hI.lds hI.out (by decide)
    have hneV := owne hI.vals hI.out (by decide)
    have hQ0 : QTb W2 g vL vV D (.slice none 0 0) [] W2 := ⟨hI.out, Grow.nil _, Wr.refl _ _, hI.out.lt⟩
    obtain ⟨AL, cL, rfl⟩ := hI.lds.val
    obtain ⟨AV, cV, rfl⟩ := hI.vals.val
    have HI2 := hide hI
    have hWW2 := hI.below.size
    clear hI hLr
    have hL16 : Ls.length ≤ 16 := by omega
    have o0 := hQ0.out.cell 0
    go_wp2_with fail
    clear o0
    go_loopw [8] (fun i wx => ∃ (k : Nat) (vT : Value) (T : List (List Int)), k ≤ Ls.length ∧ i = .int .i64 k ∧ Hid (T = (ctab os xs Ls).take k) ∧ QTb W2 g (.slice AL Ls.length cL) (.slice AV V.length cV) D vT T wx) (fun i _ => Ls.length - (intOf i).toNat)
    case atStart => exact ⟨0, _, [], by omega, rfl, hide (by simp), hQ0⟩
    case round =>
     clear hQ0
     obtain ⟨k, vT, T, hk, rfl, hTk, hQ⟩ := hrel
     obtain ⟨w3, rfl⟩ : ∃ w3, w3 = wr := ⟨_, rfl⟩
     have hB3 : Below W.heap.size W w3 := HI2.out.below.trans (hQ.kept.below (fun b hb => by omega) hWW2)
     have hW3 := hQ.kept.size
     have g0 := hQ.out.cell 0
     have hgl := hQ.out.lt
     have hOL : Ow w3 W.heap.size (.slice AL Ls.length cL) Ls := hQ.kept.own HI2.out.lds (fun b e hb => hne (by rw [e, hb]))
     by_cases hlk : k < Ls.length
     ·obtain ⟨hxO, hx0, hx1⟩ := HLr.out _ (gi_mem hlk)
      obtain ⟨x, ex⟩ : ∃ x, gi Ls k = x := ⟨_, rfl⟩
      rw [ex] at hxO hx0 hx1
      have hsL := (hOL.sl (fun v hv => by have := HLr.out v hv; exact ⟨by omega, by omega⟩))
      obtain ⟨_, _, e9, sL⟩ := hsL
      injection e9 with e91 _ e92
      subst e91
      subst e92
      obtain ⟨bl, ol, rfl, hbl, hcl⟩ := sL.at_ (by omega)
      have cx := hcl k hlk
      rw [ex] at cx
      obtain ⟨row, hrow⟩ : ∃ row, Ls.map (fun y => idxF Ls (ldr os xs (Ar os x y))) = row := ⟨_, rfl⟩
      have hrl : row.length = Ls.length := by rw [← hrow]; simp
      have hTk1 := hide (show T ++ [row] = (ctab os xs Ls).take (k + 1) by
       have hgk : (ctab os xs Ls)[k]? = some row := by unfold ctab; rw [List.getElem?_map, gi_get hlk, ex, ← hrow]; rfl
       rw [hTk.out, List.take_add_one, hgk]; rfl)
      have hrj := hide (show ∀ j, j < Ls.length → row.take (j + 1) = row.take j ++ [idxF Ls (ldr os xs (Ar os x (gi Ls j)))] from fun j hj => by
       have hgj : row[j]? = some (idxF Ls (ldr os xs (Ar os x (gi Ls j)))) := by rw [← hrow, List.getElem?_map, gi_get hj]; rfl
       rw [List.take_add_one, hgj]; rfl)
      have hrR := hide (show ∀ v ∈ row, i64ok v by
       rw [← hrow]
       intro v hv
       obtain ⟨y, _, rfl⟩ := List.mem_map.1 hv
       have := idxF_lt Ls (ldr os xs (Ar os x y))
       exact ⟨by omega, by omega⟩)
      have hTl : T.length ≤ k := by rw [hTk.out]; simp; omega
      have hrl' := hide hrl
      clear hrow hrl ex
      have hOz : Ow (w3.alloc (.cells #[] 2)) w3.heap.size (.slice (some ⟨w3.heap.size, 0, none⟩) 0 0) (row.take 0) := Ow.made' (xs := []) w3 #[] w3.heap.size 0 rfl rfl (Nat.le_refl _) rfl (by unfold maxLen; omega)
      have hBz : Below w3.heap.size w3 (w3.alloc (.cells #[] 2)) := (Below.refl _ _).alloc (Nat.le_refl _) _
      go_wp2_with fail
      go_loopw [9, 10] (fun r i wx => ∃ (j : Nat) (vr : Value), j ≤ Ls.length ∧ vr = r ∧ i = .int .i64 j ∧ Ow wx w3.heap.size vr (row.take j) ∧ Below w3.heap.size w3 wx) (fun _ i _ => Ls.length - (intOf i).toNat)
      case atStart => exact ⟨0, _, by omega, rfl, rfl, hOz, hBz⟩
      case round =>
       clear hOz hBz
       obtain ⟨j, vr, hj, rfl, rfl, hO, hBe⟩ := hrel
       have h30 := (hBe.cell (p := ⟨g, 0, none⟩) hgl).trans g0
       have h3s := hBe.size
       by_cases hlj : j < Ls.length
       ·have cy := hcl j hlj
        obtain ⟨hyO, hy0, hy1⟩ := HLr.out _ (gi_mem hlj)
        have hrj1 := hide (hrj.out j hlj)
        have hjl : (row.take j).length = j := by rw [List.length_take, hrl'.out]; omega
        obtain ⟨y, ey⟩ : ∃ y, gi Ls j = y := ⟨_, rfl⟩
        rw [ey] at cy hy0 hy1 hrj1
        clear ey
        have hadd := fun W' (hb : Below w3.heap.size w3 W') => l10Add_any W' W'.heap.size A n c os x y (hsl _ (hB3.trans (hb.mono hB3.size))) hG hx0 (by omega) hy0 (by omega)
        have hs9 := Ar_rng hG x y
        obtain ⟨s, es⟩ : ∃ s, Ar os x y = s := ⟨_, rfl⟩
        rw [es] at hadd hs9 hrj1
        clear es
        have hled := fun W' (hb : Below w3.heap.size w3 W') => l11Leader_any W' A n c os D A' vs.length c' L xs.length lc xs s (hsl _ (hB3.trans (hb.mono hB3.size))) (hsx _ (hB3.trans (hb.mono hB3.size))) hl hG hs9.1 (by omega) (fun y hy => ⟨(HI.out y hy).1, by have := (HI.out y hy).2; omega⟩)
        obtain ⟨d, ed⟩ : ∃ d, ldr os xs s = d := ⟨_, rfl⟩
        rw [ed] at hled hrj1
        clear ed
        have hidx := fun W' (hb : Below w3.heap.size w3 W') => l01Index_any W' w3.heap.size (some ⟨bl, ol, none⟩) Ls.length cL Ls d (sL.below hb) (by omega)
        obtain ⟨v, ev⟩ : ∃ v, idxF Ls d = v := ⟨_, rfl⟩
        rw [ev] at hidx hrj1
        clear ev
        have p0 := (hB3.cell (p := ⟨w.heap.size, 0, none⟩) hszW).trans q0
        have p1 := (hB3.cell (p := ⟨w.heap.size, 1, none⟩) hszW).trans q1
        have p2 := (hB3.cell (p := ⟨w.heap.size, 2, none⟩) hszW).trans q2
        have hz3 : w.heap.size < w3.heap.size := Nat.lt_of_lt_of_le hszW hB3.size
        have k0 : 0 ≤ (k : Int) := by omega
        have k1 : (k : Int) < (Ls.length : Int) := by omega
        have j0 : 0 ≤ (j : Int) := by omega
        have j1 : (j : Int) < (Ls.length : Int) := by omega
        go_wp2_with fail
        refine wp_region_ord [0, 1, 2, 3, 4, 5, 6, 7, 8, 9, 10, 11, 12, 13, 14, 15, 16, 17, 18, 19, 20, 21, 22] 22 (Below w3.heap.size w3) (by kernel_rfl) (by kernel_rfl) (by kernel_rfl) (fun _ _ _ _ _ h => h) hBe.drew ?_
        replace hO := hO.drew
        replace hBe := hBe.drew
        clear h30 h3s
        repeat (first | (apply ord_tk rfl (by rfl) (by rfl) (by rfl); (focus (intro wx hSw; have r0 := (hSw.cell (p := ⟨w.heap.size, 0, none⟩) hz3).trans p0; have r1 := (hSw.cell (p := ⟨w.heap.size, 1, none⟩) hz3).trans p1; have r2 := (hSw.cell (p := ⟨w.heap.size, 2, none⟩) hz3).trans p2; have r3 := (hSw.cell (p := ⟨g, 0, none⟩) hgl).trans g0; have r4 := (hSw.cell (p := ⟨bl, ol + k, none⟩) hbl).trans cx; have r5 := (hSw.cell (p := ⟨bl, ol + j, none⟩) hbl).trans cy; go_simp; (try with_reducible rfl))); (try simp only [Act.put, List.setIfInBounds_toArray, List.set_cons_zero, List.set_cons_succ])) | (apply ord_skip rfl (by rfl) (by rfl) (fun _ => hBe); (try simp only [Act.put, List.setIfInBounds_toArray, List.set_cons_zero, List.set_cons_succ])))
        refine ord_do rfl (by rfl) (by rfl) (fun K hK => ?_)
        go_simp
        refine ((hadd _ hBe).mono fun _ _ h => Qt.re h).mono ?_
        rintro e wd' ⟨rfl, hwd⟩
        replace hO := hO.below hwd
        replace hBe := hBe.trans (hwd.mono hBe.size)
        clear hwd
        refine hK.out _ _ (fun _ => hBe) ?_
        (try simp only [Act.put, List.setIfInBounds_toArray, List.set_cons_zero, List.set_cons_succ])
        clear hK K
        repeat (first | (apply ord_tk rfl (by rfl) (by rfl) (by rfl); (focus (intro wx hSw; have r0 := (hSw.cell (p := ⟨w.heap.size, 0, none⟩) hz3).trans p0; have r1 := (hSw.cell (p := ⟨w.heap.size, 1, none⟩) hz3).trans p1; have r2 := (hSw.cell (p := ⟨w.heap.size, 2, none⟩) hz3).trans p2; have r3 := (hSw.cell (p := ⟨g, 0, none⟩) hgl).trans g0; have r4 := (hSw.cell (p := ⟨bl, ol + k, none⟩) hbl).trans cx; have r5 := (hSw.cell (p := ⟨bl, ol + j, none⟩) hbl).trans cy; go_simp; (try with_reducible rfl))); (try simp only [Act.put, List.setIfInBounds_toArray, List.set_cons_zero, List.set_cons_succ])) | (apply ord_skip rfl (by rfl) (by rfl) (fun _ => hBe); (try simp only [Act.put, List.setIfInBounds_toArray, List.set_cons_zero, List.set_cons_succ])))
        refine ord_do rfl (by rfl) (by rfl) (fun K hK => ?_)
        go_simp
        refine (hled _ hBe).mono ?_
        rintro e wd' ⟨rfl, hwd⟩
        replace hO := hO.below hwd
        replace hBe := hBe.trans (hwd.mono hBe.size)
        clear hwd
        refine hK.out _ _ (fun _ => hBe) ?_
        (try simp only [Act.put, List.setIfInBounds_toArray, List.set_cons_zero, List.set_cons_succ])
        clear hK K
        repeat (first | (apply ord_tk rfl (by rfl) (by rfl) (by rfl); (focus (intro wx hSw; have r0 := (hSw.cell (p := ⟨w.heap.size, 0, none⟩) hz3).trans p0; have r1 := (hSw.cell (p := ⟨w.heap.size, 1, none⟩) hz3).trans p1; have r2 := (hSw.cell (p := ⟨w.heap.size, 2, none⟩) hz3).trans p2; have r3 := (hSw.cell (p := ⟨g, 0, none⟩) hgl).trans g0; have r4 := (hSw.cell (p := ⟨bl, ol + k, none⟩) hbl).trans cx; have r5 := (hSw.cell (p := ⟨bl, ol + j, none⟩) hbl).trans cy; go_simp; (try with_reducible rfl))); (try simp only [Act.put, List.setIfInBounds_toArray, List.set_cons_zero, List.set_cons_succ])) | (apply ord_skip rfl (by rfl) (by rfl) (fun _ => hBe); (try simp only [Act.put, List.setIfInBounds_toArray, List.set_cons_zero, List.set_cons_succ])))
        refine ord_do rfl (by rfl) (by rfl) (fun K hK => ?_)
        go_simp
        refine ((hidx _ hBe).mono fun _ _ h => Qt.re h).mono ?_
        rintro e wd' ⟨rfl, hwd⟩
        replace hO := hO.below hwd
        replace hBe := hBe.trans (hwd.mono hBe.size)
        clear hwd
        refine hK.out _ _ (fun _ => hBe) ?_
        (try simp only [Act.put, List.setIfInBounds_toArray, List.set_cons_zero, List.set_cons_succ])
        clear hK K
        repeat (first | (apply ord_tk rfl (by rfl) (by rfl) (by rfl); (focus (intro wx hSw; have r0 := (hSw.cell (p := ⟨w.heap.size, 0, none⟩) hz3).trans p0; have r1 := (hSw.cell (p := ⟨w.heap.size, 1, none⟩) hz3).trans p1; have r2 := (hSw.cell (p := ⟨w.heap.size, 2, none⟩) hz3).trans p2; have r3 := (hSw.cell (p := ⟨g, 0, none⟩) hgl).trans g0; have r4 := (hSw.cell (p := ⟨bl, ol + k, none⟩) hbl).trans cx; have r5 := (hSw.cell (p := ⟨bl, ol + j, none⟩) hbl).trans cy; go_simp; (try with_reducible rfl))); (try simp only [Act.put, List.setIfInBounds_toArray, List.set_cons_zero, List.set_cons_succ])) | (apply ord_skip rfl (by rfl) (by rfl) (fun _ => hBe); (try simp only [Act.put, List.setIfInBounds_toArray, List.set_cons_zero, List.set_cons_succ])))
        refine ord_do rfl (by rfl) (by rfl) (fun K hK => ?_)
        go_simp
        have hbs := hBe.size
        refine hK.out _ _ (fun _ => hBe.alloc hBe.size _) ?_
        (try simp only [Act.put, List.setIfInBounds_toArray, List.set_cons_zero, List.set_cons_succ])
        clear hK K
        refine ord_do rfl (by rfl) (by rfl) (fun K hK => ?_)
        refine wp_push _ _ _ (by rfl) w3.heap.size _ _ (by rfl) (hO.alloc _) v wd'.heap.size _ (by rfl) (Blk.new _ _ _) (by omega) (by simp; omega) (by simp) ?_
        intro g5 cap5 w5 hP
        have hB5 := (hBe.alloc hBe.size _).trans (hP.below (hO.alloc _) (by simp; omega))
        refine hK.out _ _ (fun _ => hB5) ?_
        (try simp only [Act.put, List.setIfInBounds_toArray, List.set_cons_zero, List.set_cons_succ])
        clear hK K
        have hO5 := hP.own
        rw [← hrj1.out, hjl] at hO5
        clear hP hO hBe hbs
        refine ord_do rfl (by rfl) (by rfl) (fun K hK => ?_)
        go_simp
        refine hK.out _ _ (fun h => absurd h (by omega)) ?_
        (try simp only [Act.put, List.setIfInBounds_toArray, List.set_cons_zero, List.set_cons_succ])
        clear hK K
        refine ord_nil ?_
        go_wp2_with fail
        go_roundw
        case rel => exact ⟨j + 1, _, by omega, rfl, by go_num, hO5, hB5⟩
        case measure => simp [intOf] <;> omega
       ·obtain rfl : j = Ls.length := by omega
        have hO9 := hO
        rw [List.take_of_length_le (by rw [hrl'.out]; exact Nat.le_refl _)] at hO9
        clear hO
        obtain ⟨Ar', cr, rfl⟩ := hO9.val
        have hRow := E1.of_ow hO9 hrR.out
        rw [hrl'.out] at hRow
        obtain ⟨w6, rfl⟩ : ∃ w6, w6 = wr := ⟨_, rfl⟩
        have hbw : Below w6.heap.size w6 (w6.alloc (.cells #[.slice Ar' Ls.length cr] 24)) := (Below.refl _ _).alloc (Nat.le_refl _) _
        have hRow6 := E1.below hRow hbw
        have h31 := (hBe.cell (p := ⟨g, 1, none⟩) hgl).trans (hQ.out.cell 1)
        have f31 := (hBe.frozen (p := ⟨g, 1, none⟩) hgl).trans (hQ.out.frozen 1)
        have hB39 := hBe.trans (hbw.mono hBe.size)
        have hgW := hQ.lt
        have hg6 : g < w6.heap.size := Nat.lt_of_lt_of_le hgl hBe.size
        obtain ⟨At, ct, rfl⟩ := hQ.tab.val
        have hQ6 := hide (hQ.bel hB39)
        have hGr := hQ.tab
        have hRL := hide hrl'.out
        clear hQ hRow hO9
        rw [hrl'.out]
        go_wp2_with (at_builtin; refine list_pushG kp1 29 24 _ 24 Tryz.underlying29 rows_info (by omega) rfl _ rfl _ _ rfl W2.heap.size (.slice At T.length ct) T rfl w3 hGr hB39 (.slice Ar' Ls.length cr) row _ hRow6 (fun b hb => ⟨hb.1, by have := hb.2; simp; omega⟩) rfl w6.heap.size _ rfl (Blk.new _ _ _) (by omega) hW3 (by simp) ?_; intro g' cap' w7 hG7 hB7 hW7 hg7 hg8; have t2 := (hB7.cell (p := ⟨g, 1, none⟩) hgW).trans ((hbw.cell (p := ⟨g, 1, none⟩) hg6).trans h31); have t3 := (hB7.frozen (p := ⟨g, 1, none⟩) hgW).trans ((hbw.frozen (p := ⟨g, 1, none⟩) hg6).trans f31))
        have hN := hQ6.out.next hB7 hG7
        go_roundw
        case rel => exact ⟨k + 1, _, _, by omega, by go_num, hTk1, hN⟩
        case measure => simp [intOf] <;> omega
     ·obtain rfl : k = Ls.length := by omega
      have hTe : T = ctab os xs Ls := by rw [hTk.out, List.take_of_length_le]; unfold ctab; simp
      obtain ⟨At, ct, rfl⟩ := hQ.tab.val
      have bR3 : Blk w3 (w.heap.size + 1) 31 #[.slice none 0 0, .slice none 0 0, .int .i64 0, .slice none 0 0] := hQ.kept.blk (bR.all HI2.out.below) (by have := hsW.out; omega)
      have x0 := hQ.out.cell 0
      have x1 := hQ.out.cell 1
      have x2 := hQ.out.cell 2
      have x3 := hQ.out.cell 3
      have z0 := bR3.frozen 0
      have z1 := bR3.frozen 1
      have z2 := bR3.frozen 2
      have z3 := bR3.frozen 3
      have y0 := bR3.cell 0
      have y1 := bR3.cell 1
      have y2 := bR3.cell 2
      have y3 := bR3.cell 3
      have hb4 := put4_blk (x := .slice AL Ls.length cL) (y := .slice At T.length ct) (z := .int .i64 D) (u := .slice AV V.length cV) bR3
      have p0 := hb4.cell 0
      have p1 := hb4.cell 1
      have p2 := hb4.cell 2
      have p3 := hb4.cell 3
      unfold put4 put3 at p0 p1 p2 p3
      have hVr := hide (show ∀ v ∈ V, i64ok v by
       rw [hVs.out]
       intro v hv
       obtain ⟨y, hy, rfl⟩ := List.mem_map.1 hv
       have h1 := HLr.out y hy
       have := hok.out.vl (k := y.toNat) (by omega)
       have := hok.out.d2
       unfold Vl
       exact ⟨by omega, by omega⟩)
      have hLo := hide (show ∀ v ∈ Ls, i64ok v from fun v hv => by have := HLr.out v hv; exact ⟨by omega, by omega⟩)
      have hfin := hide (hQ.fin (r := w.heap.size + 1) (B := W.heap.size) (hbW.trans (HI2.out.below.mono (Nat.le_of_lt hszW))) (by omega) (by have := hsW.out; omega) hWW2 (Nat.le_of_lt hszW) (by omega) HI2.out.lds HI2.out.vals HI2.out.aL hLo.out hVr.out hne hneV)
      have HTE := hide hTe
      clear hTe hQ bR3 hb4
      go_wp2_with fail
      refine bodyPost_ret (v := .agg #[.slice AL Ls.length cL, .slice At T.length ct, .int .i64 D, .slice AV V.length cV]) (by simp [results, Tryz.results50, go_sem, p0, p1, p2, p3]) rfl ?_
      have h9 := hfin.out
      rw [HQ2.out, ← HTE.out, ← hVs.out]
      exact h9
end Go.Proofs.YtbpihnpakolooaaGreatDoor
