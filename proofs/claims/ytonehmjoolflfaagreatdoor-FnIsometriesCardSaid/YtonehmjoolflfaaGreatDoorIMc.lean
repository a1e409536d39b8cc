
/- The walks of l10Isometries, CountIsometries and IsometryOf of the reference. The walk of the closure extend of eachIsometry. -/
import Derived.Test.YtonehmjoolflfaaGreatDoorIM6
import Derived.Test.YtonehmjoolflfaaGreatDoorKM
namespace Go.Proofs.YtonehmjoolflfaaGreatDoor
open Go Go.RowKit Grp
set_option linter.unusedSimpArgs false
set_option linter.unusedVariables false
set_option maxRecDepth 100000
theorem E2.nil_ (w : World) (fp : Nat → Prop) (hf : ∀ b, fp b → b < w.heap.size) : E2 w (.slice none 0 0) [] fp :=
  ⟨⟨[], fun _ _ => False, World.ownsRow_nil _ _ _ _, rfl, fun k u x h => by simp at h, fun _ _ _ h => h.elim, fun _ _ h => h.elim⟩, fun b hb => by simp [Value.ownBlock] at hb, hf⟩
theorem E1.empty (w : World) (g : Nat) (hg : w.heap.size = g) : E1 (w.alloc (.cells #[] 2)) (.slice (some ⟨g, 0, none⟩) 0 0) [] (fun b => b = g) := by
  have h : Ow (w.alloc (.cells #[] 2)) 0 (.slice (some ⟨g, 0, none⟩) 0 0) [] := Ow.made' (xs := []) _ _ g 0 hg rfl (Nat.zero_le _) rfl (by unfold maxLen; omega)
  exact ⟨h, by simp, fun b hb => by simpa [Value.ownBlock] using hb.symm, fun b hb => by rw [hb]; simp; omega⟩
theorem E2.empty (w : World) (g : Nat) (hg : w.heap.size = g) : E2 (w.alloc (.cells #[] 24)) (.slice (some ⟨g, 0, none⟩) 0 0) [] (fun b => b = g) := by
  have h := (Grow.start (α := List Int) (E := E1) (t := 24) (B := 0) hg (Nat.zero_le _)).toL
  have h2 := OwV.made w 24 g hg (B := 0) (Nat.zero_le _)
  refine ⟨⟨[], fun _ _ => False, h2, rfl, fun k u x h => by simp at h, fun _ _ _ h => h.elim, fun _ _ h => h.elim⟩, fun b hb => by simpa [Value.ownBlock] using hb.symm, fun b hb => by rw [hb]; simp; omega⟩
/-- Two metrics. -/
def two (x y : metric_T) : Two := ⟨x.1, x.2.1, x.2.2, y.1, y.2.1, y.2.2⟩
noncomputable def bothM (x y : metric_T) : Bool := isM x.1 x.2.1 x.2.2 && isM y.1 y.2.1 y.2.2
set_option maxHeartbeats 4000000 in
theorem l10Isos_any (w : World) (T : Two) (A : Option Addr) (n c : Nat) (B : Option Addr) (m k : Nat) (A2 : Option Addr) (n2 c2 : Nat) (B2 : Option Addr) (m2 k2 : Nat) (first : Bool)
    (h : Sl w w.heap.size A n c T.os) (h' : Sl w w.heap.size B m k T.vs) (g : Sl w w.heap.size A2 n2 c2 T.ps) (g' : Sl w w.heap.size B2 m2 k2 T.us) (hM : IsM T.os T.D T.vs) (hN : IsM T.ps T.E T.us) :
    Calls Tryz.prog 28 #[.agg #[.slice A n c, .int .i64 T.D, .slice B m k], .agg #[.slice A2 n2 c2, .int .i64 T.E, .slice B2 m2 k2], .bool first] w (MkE E2 w (tk first T.all)) := by
  have l1 := h'.len
  have l2 := g'.len
  by_cases he : T.vs.length = T.us.length
  · have hT : TwoOk T := ⟨hM, hN, he⟩
    have hA := hide (show T.all = T.isos T.os.length [] by unfold Two.all; rw [if_pos he])
    obtain ⟨W1, hW1⟩ : ∃ W1, (w.alloc (.cells #[.slice A n c, .int .i64 T.D, .slice B m k] 26)).alloc (.cells #[.slice A2 n2 c2, .int .i64 T.E, .slice B2 m2 k2] 26) = W1 := ⟨_, rfl⟩
    have hB1 : Below w.heap.size w W1 := by rw [← hW1]; exact (by repeat (first | assumption | exact Below.refl _ _ | apply below_drewN | apply Below.drew | apply Below.alloc | apply Below.setCell | omega | (focus (simp; done)) | (focus (simp; omega))))
    have bm1 : Blk W1 w.heap.size 26 #[.slice A n c, .int .i64 T.D, .slice B m k] := by rw [← hW1]; exact (Blk.new _ _ _).alloc _
    have bn1 : Blk W1 (w.heap.size + 1) 26 #[.slice A2 n2 c2, .int .i64 T.E, .slice B2 m2 k2] := by rw [← hW1]; exact Blk.new' _ _ _ _ (by simp)
    obtain ⟨W2, hW2⟩ : ∃ W2, W1.alloc (.cells #[] 2) = W2 := ⟨_, rfl⟩
    obtain ⟨W3, hW3⟩ : ∃ W3, W2.alloc (.cells #[] 24) = W3 := ⟨_, rfl⟩
    have s12 : W1.heap.size + 1 = W2.heap.size := by rw [← hW2]; simp
    have s23 : W2.heap.size + 1 = W3.heap.size := by rw [← hW3]; simp
    have hB2 : Below w.heap.size w W2 := by rw [← hW2]; exact hB1.alloc hB1.size _
    have hB3 : Below w.heap.size w W3 := by rw [← hW3]; exact hB2.alloc hB2.size _
    have e1 : E1 W3 (.slice (some ⟨W1.heap.size, 0, none⟩) 0 0) [] (fun b => b = W1.heap.size) := by rw [← hW3]; exact (by rw [← hW2]; exact E1.empty W1 _ rfl : E1 W2 _ _ _).below ((Below.refl _ _).alloc (Nat.le_refl _) _)
    have e2 : E2 W3 (.slice (some ⟨W2.heap.size, 0, none⟩) 0 0) [] (fun b => b = W2.heap.size) := by rw [← hW3]; exact E2.empty W2 _ rfl
    have hs3 := hB3.size
    have hs1 := hB1.size
    have hL4 := hT.M.ok.g.l4
    have h16 : 16 ^ T.os.length ≤ 16 ^ 4 := Nat.pow_le_pow_right (by omega) hL4
    have hMp := l10Maps_any hT first T.os.length W3 w.heap.size A n c B m k A2 n2 c2 B2 m2 k2 _ _ [] [] (fun b => b = W1.heap.size) (fun b => b = W2.heap.size) (h.below hB3) (h'.below hB3) (g.below hB3) (g'.below hB3) hs3 e1 e2 (fun b hb => ⟨fun hh => by omega, by omega⟩) (fun b hb => by omega) (fun _ => rfl) (by simp) (by simp) (by simp; omega)
    rw [List.nil_append, ← hA.out] at hMp
    have HMp := hide hMp
    have r0 := bm1.cell 0
    have r1 := bm1.cell 1
    have r2 := bm1.cell 2
    have s0 := bn1.cell 0
    have s1 := bn1.cell 1
    have s2 := bn1.cell 2
    have hl12 : m = m2 := by omega
    subst hl12
    clear hMp e1 e2 h16 hL4 hB1 hB2 hA
    go_enter Tryz.func28, Tryz.ntmps28
    go_wp2_with fail
    refine HMp.out.mono ?_
    rintro e w4 ⟨v, rfl, hE, hWr⟩
    have hz4 := hWr.size
    have hfin := OwL.mono hE (fun b hb => (by rcases hb with hb | hb | hb; exact ⟨by omega, by omega⟩; exact ⟨by omega, by omega⟩; exact ⟨by omega, hb.2⟩ : w.heap.size ≤ b ∧ b < w4.heap.size)) (fun b hb => hb.2)
    have hB4 := hB3.trans (hWr.below (B := w.heap.size) (fun b hb => by omega) hs3)
    go_wp2_with fail
    go_ret
    exact ⟨_, rfl, hfin, hB4⟩
  · have hne : ((m : Int) != (m2 : Int)) = true := by rw [bne_iff_ne]; omega
    have hA := hide (show tk first T.all = [] by unfold Two.all; rw [if_neg he]; unfold tk; split <;> rfl)
    have hB1 : Below w.heap.size w ((w.alloc (.cells #[.slice A n c, .int .i64 T.D, .slice B m k] 26)).alloc (.cells #[.slice A2 n2 c2, .int .i64 T.E, .slice B2 m2 k2] 26)) := (by repeat (first | assumption | exact Below.refl _ _ | apply below_drewN | apply Below.drew | apply Below.alloc | apply Below.setCell | omega | (focus (simp; done)) | (focus (simp; omega))))
    go_enter Tryz.func28, Tryz.ntmps28
    go_wp2_with fail
    go_ret
    exact ⟨_, rfl, by rw [hA.out]; exact E2.nil_ _ _ (fun b hb => hb.2), hB1⟩
/-- What both sides return. -/
noncomputable def ciC (x y : metric_T) : Int := if bothM x y = true then ((two x y).all.length : Nat) else 0
noncomputable def ciK (x y : metric_T) : Int := if bothM x y = true then 0 else 1
noncomputable def ioL (x y : metric_T) : List Int := if bothM x y = true then (two x y).all.headD [] else []
noncomputable def ioK (x y : metric_T) : Int := if bothM x y = true then (if (two x y).all = [] then 4 else 0) else 1
theorem Two.all_le (T : Two) (hM : IsM T.os T.D T.vs) (hN : IsM T.ps T.E T.us) : T.all.length ≤ 65536 := by
  unfold Two.all
  split
  · refine Nat.le_trans (T.isos_many hN.ok.lt _ _) ?_
    exact Nat.pow_le_pow_right (by omega) hM.ok.g.l4
  · simp
theorem tk_false (l : List (List Int)) : tk false l = l := rfl
set_option maxHeartbeats 4000000 in
theorem specCI_T (w : World) (T : Two) (C K : Int) (A : Option Addr) (n c : Nat) (B : Option Addr) (m k : Nat) (A2 : Option Addr) (n2 c2 : Nat) (B2 : Option Addr) (m2 k2 : Nat)
    (h : Sl w w.heap.size A n c T.os) (h' : Sl w w.heap.size B m k T.vs) (g : Sl w w.heap.size A2 n2 c2 T.ps) (g' : Sl w w.heap.size B2 m2 k2 T.us) (hn : n ≤ 1073741824) (hm2 : m ≤ 1073741824) (hn2 : n2 ≤ 1073741824) (hk2 : m2 ≤ 1073741824)
    (no1 : isM T.os T.D T.vs = false → C = 0 ∧ K = 1) (no2 : isM T.ps T.E T.us = false → C = 0 ∧ K = 1) (yes : isM T.os T.D T.vs = true → isM T.ps T.E T.us = true → C = (T.all.length : Nat) ∧ K = 0) :
    Calls Tryz.prog 9 #[.agg #[.slice A n c, .int .i64 T.D, .slice B m k], .agg #[.slice A2 n2 c2, .int .i64 T.E, .slice B2 m2 k2]] w (Re w (.tuple #[.int .i64 C, .int .i64 K])) := by
  obtain ⟨W, hW⟩ : ∃ W, (w.alloc (.cells #[.slice A n c, .int .i64 T.D, .slice B m k] 26)).alloc (.cells #[.slice A2 n2 c2, .int .i64 T.E, .slice B2 m2 k2] 26) = W := ⟨_, rfl⟩
  have hB1 : Below w.heap.size w W := by rw [← hW]; exact (by repeat (first | assumption | exact Below.refl _ _ | apply below_drewN | apply Below.drew | apply Below.alloc | apply Below.setCell | omega | (focus (simp; done)) | (focus (simp; omega))))
  have bm1 : Blk W w.heap.size 26 #[.slice A n c, .int .i64 T.D, .slice B m k] := by rw [← hW]; exact (Blk.new _ _ _).alloc _
  have bn1 : Blk W (w.heap.size + 1) 26 #[.slice A2 n2 c2, .int .i64 T.E, .slice B2 m2 k2] := by rw [← hW]; exact Blk.new' _ _ _ _ (by simp)
  have hs1 := hB1.size
  have r0 := bm1.cell 0
  have r1 := bm1.cell 1
  have r2 := bm1.cell 2
  have s0 := bn1.cell 0
  have s1 := bn1.cell 1
  have s2 := bn1.cell 2
  replace no1 := fun hm (w' : World) (hb : Below w.heap.size w w') => (show Re w (.tuple #[.int .i64 C, .int .i64 K]) (.returned (.tuple #[.int .i64 0, .int .i64 1])) w' from ⟨by rw [(no1 hm).1, (no1 hm).2], hb⟩)
  replace no2 := fun hm (w' : World) (hb : Below w.heap.size w w') => (show Re w (.tuple #[.int .i64 C, .int .i64 K]) (.returned (.tuple #[.int .i64 0, .int .i64 1])) w' from ⟨by rw [(no2 hm).1, (no2 hm).2], hb⟩)
  cases hm : isM T.os T.D T.vs with
  | false =>
    have hI1 := hide (l10Is_v false W A n c T.os T.D B m k T.vs ((h.below hB1).more hs1) ((h'.below hB1).more hs1) hn hm2 hm)
    go_enter Tryz.func9, Tryz.ntmps9
    go_wp2_with fail
    clear r0 r1 r2 s0 s1 s2
    refine hI1.out.mono ?_
    rintro e w2 ⟨rfl, hb2⟩
    go_wp2_with fail
    refine bodyPost_ret (v := .tuple #[.int .i64 0, .int .i64 1]) (by simp [results, Tryz.results9, go_sem]) rfl ?_
    exact no1 hm _ (hB1.trans (hb2.mono hs1))
  | true =>
    have hI1 := hide (l10Is_v true W A n c T.os T.D B m k T.vs ((h.below hB1).more hs1) ((h'.below hB1).more hs1) hn hm2 hm)
    cases hq : isM T.ps T.E T.us with
    | false =>
      have hI2 := hide (fun (W2 : World) (hb : Below w.heap.size w W2) => l10Is_v false W2 A2 n2 c2 T.ps T.E B2 m2 k2 T.us ((g.below hb).more hb.size) ((g'.below hb).more hb.size) hn2 hk2 hq)
      go_enter Tryz.func9, Tryz.ntmps9
      go_wp2_with fail
      clear r0 r1 r2 s0 s1 s2
      refine hI1.out.mono ?_
      rintro e w2 ⟨rfl, hb2⟩
      have hB2 := hB1.trans (hb2.mono hs1)
      have bn2 := bn1.all hb2
      have s0 := bn2.cell 0
      have s1 := bn2.cell 1
      have s2 := bn2.cell 2
      go_wp2_with fail
      refine (hI2.out _ hB2).mono ?_
      rintro e w3 ⟨rfl, hb3⟩
      go_wp2_with fail
      refine bodyPost_ret (v := .tuple #[.int .i64 0, .int .i64 1]) (by simp [results, Tryz.results9, go_sem]) rfl ?_
      exact no2 hq _ (hB2.trans (hb3.mono hB2.size))
    | true =>
      have hI2 := hide (fun (W2 : World) (hb : Below w.heap.size w W2) => l10Is_v true W2 A2 n2 c2 T.ps T.E B2 m2 k2 T.us ((g.below hb).more hb.size) ((g'.below hb).more hb.size) hn2 hk2 hq)
      go_enter Tryz.func9, Tryz.ntmps9
      go_wp2_with fail
      clear r0 r1 r2 s0 s1 s2
      refine hI1.out.mono ?_
      rintro e w2 ⟨rfl, hb2⟩
      have hB2 := hB1.trans (hb2.mono hs1)
      have bm2 := bm1.all hb2
      have bn2 := bn1.all hb2
      have r0 := bm2.cell 0
      have r1 := bm2.cell 1
      have r2 := bm2.cell 2
      have s0 := bn2.cell 0
      have s1 := bn2.cell 1
      have s2 := bn2.cell 2
      go_wp2_with fail
      clear r0 r1 r2 s0 s1 s2
      refine (hI2.out _ hB2).mono ?_
      rintro e w3 ⟨rfl, hb3⟩
      have hB3 := hB2.trans (hb3.mono hB2.size)
      have bm3 := bm2.all hb3
      have bn3 := bn2.all hb3
      have r0 := bm3.cell 0
      have r1 := bm3.cell 1
      have r2 := bm3.cell 2
      have s0 := bn3.cell 0
      have s1 := bn3.cell 1
      have s2 := bn3.cell 2
      clear hI1 hI2 bm1 bm2 bn1 bn2
      have hM := isM_iff.1 hm
      have hN := isM_iff.1 hq
      have hle := T.all_le hM hN
      obtain ⟨e1, e2⟩ := yes hm hq
      have HE1 := hide e1
      have HE2 := hide e2
      have hIs := hide (l10Isos_any w3 T A n c B m k A2 n2 c2 B2 m2 k2 false ((h.below hB3).more hB3.size) ((h'.below hB3).more hB3.size) ((g.below hB3).more hB3.size) ((g'.below hB3).more hB3.size) hM hN)
      rw [tk_false] at hIs
      clear e1 e2 yes
      go_wp2_with fail
      clear r0 r1 r2 s0 s1 s2
      refine hIs.out.mono ?_
      rintro e w4 ⟨v, rfl, hE, hb4⟩
      obtain ⟨Av, cv, rfl, _⟩ := OwL.rd (P := fun _ _ => True) hE fun _ _ _ _ => trivial
      have hB4 := hB3.trans (hb4.mono hB3.size)
      go_wp2_with fail
      refine bodyPost_ret (v := .tuple #[.int .i64 (T.all.length : Nat), .int .i64 0]) (by simp [results, Tryz.results9, go_sem]) rfl ?_
      exact ⟨by rw [HE1.out, HE2.out], hB4⟩
set_option maxHeartbeats 4000000 in
theorem specIO_T (w : World) (T : Two) (L : List Int) (K : Int) (A : Option Addr) (n c : Nat) (B : Option Addr) (m k : Nat) (A2 : Option Addr) (n2 c2 : Nat) (B2 : Option Addr) (m2 k2 : Nat)
    (h : Sl w w.heap.size A n c T.os) (h' : Sl w w.heap.size B m k T.vs) (g : Sl w w.heap.size A2 n2 c2 T.ps) (g' : Sl w w.heap.size B2 m2 k2 T.us) (hn : n ≤ 1073741824) (hm2 : m ≤ 1073741824) (hn2 : n2 ≤ 1073741824) (hk2 : m2 ≤ 1073741824)
    (no1 : isM T.os T.D T.vs = false → L = [] ∧ K = 1) (no2 : isM T.ps T.E T.us = false → L = [] ∧ K = 1) (yes : isM T.os T.D T.vs = true → isM T.ps T.E T.us = true → (T.all = [] → L = [] ∧ K = 4) ∧ (∀ x r, T.all = x :: r → L = x ∧ K = 0)) :
    Calls Tryz.prog 7 #[.agg #[.slice A n c, .int .i64 T.D, .slice B m k], .agg #[.slice A2 n2 c2, .int .i64 T.E, .slice B2 m2 k2]] w (MkEC ints_E w L K) := by
  obtain ⟨W, hW⟩ : ∃ W, (w.alloc (.cells #[.slice A n c, .int .i64 T.D, .slice B m k] 26)).alloc (.cells #[.slice A2 n2 c2, .int .i64 T.E, .slice B2 m2 k2] 26) = W := ⟨_, rfl⟩
  have hB1 : Below w.heap.size w W := by rw [← hW]; exact (by repeat (first | assumption | exact Below.refl _ _ | apply below_drewN | apply Below.drew | apply Below.alloc | apply Below.setCell | omega | (focus (simp; done)) | (focus (simp; omega))))
  have bm1 : Blk W w.heap.size 26 #[.slice A n c, .int .i64 T.D, .slice B m k] := by rw [← hW]; exact (Blk.new _ _ _).alloc _
  have bn1 : Blk W (w.heap.size + 1) 26 #[.slice A2 n2 c2, .int .i64 T.E, .slice B2 m2 k2] := by rw [← hW]; exact Blk.new' _ _ _ _ (by simp)
  have hs1 := hB1.size
  have r0 := bm1.cell 0
  have r1 := bm1.cell 1
  have r2 := bm1.cell 2
  have s0 := bn1.cell 0
  have s1 := bn1.cell 1
  have s2 := bn1.cell 2
  have hnil : ∀ (w' : World), E1 w' (.slice none 0 0) [] (fun b => w.heap.size ≤ b ∧ b < w'.heap.size) := fun w' => ⟨Ow.nil _ _, by simp, fun b hb => by simp [Value.ownBlock] at hb, fun b hb => hb.2⟩
  replace no1 := fun hm (w' : World) (hb : Below w.heap.size w w') => (show MkEC ints_E w L K (.returned (.tuple #[.slice none 0 0, .int .i64 1])) w' from ⟨_, by rw [(no1 hm).2], by rw [(no1 hm).1]; exact hnil w', hb⟩)
  replace no2 := fun hm (w' : World) (hb : Below w.heap.size w w') => (show MkEC ints_E w L K (.returned (.tuple #[.slice none 0 0, .int .i64 1])) w' from ⟨_, by rw [(no2 hm).2], by rw [(no2 hm).1]; exact hnil w', hb⟩)
  cases hm : isM T.os T.D T.vs with
  | false =>
    have hI1 := hide (l10Is_v false W A n c T.os T.D B m k T.vs ((h.below hB1).more hs1) ((h'.below hB1).more hs1) hn hm2 hm)
    go_enter Tryz.func7, Tryz.ntmps7
    go_wp2_with fail
    clear r0 r1 r2 s0 s1 s2
    refine hI1.out.mono ?_
    rintro e w2 ⟨rfl, hb2⟩
    go_wp2_with fail
    refine bodyPost_ret (v := .tuple #[.slice none 0 0, .int .i64 1]) (by simp [results, Tryz.results7, go_sem]) rfl ?_
    exact no1 hm _ (hB1.trans (hb2.mono hs1))
  | true =>
    have hI1 := hide (l10Is_v true W A n c T.os T.D B m k T.vs ((h.below hB1).more hs1) ((h'.below hB1).more hs1) hn hm2 hm)
    cases hq : isM T.ps T.E T.us with
    | false =>
      have hI2 := hide (fun (W2 : World) (hb : Below w.heap.size w W2) => l10Is_v false W2 A2 n2 c2 T.ps T.E B2 m2 k2 T.us ((g.below hb).more hb.size) ((g'.below hb).more hb.size) hn2 hk2 hq)
      go_enter Tryz.func7, Tryz.ntmps7
      go_wp2_with fail
      clear r0 r1 r2 s0 s1 s2
      refine hI1.out.mono ?_
      rintro e w2 ⟨rfl, hb2⟩
      have hB2 := hB1.trans (hb2.mono hs1)
      have bn2 := bn1.all hb2
      have s0 := bn2.cell 0
      have s1 := bn2.cell 1
      have s2 := bn2.cell 2
      go_wp2_with fail
      refine (hI2.out _ hB2).mono ?_
      rintro e w3 ⟨rfl, hb3⟩
      go_wp2_with fail
      refine bodyPost_ret (v := .tuple #[.slice none 0 0, .int .i64 1]) (by simp [results, Tryz.results7, go_sem]) rfl ?_
      exact no2 hq _ (hB2.trans (hb3.mono hB2.size))
    | true =>
      have hI2 := hide (fun (W2 : World) (hb : Below w.heap.size w W2) => l10Is_v true W2 A2 n2 c2 T.ps T.E B2 m2 k2 T.us ((g.below hb).more hb.size) ((g'.below hb).more hb.size) hn2 hk2 hq)
      go_enter Tryz.func7, Tryz.ntmps7
      go_wp2_with fail
      clear r0 r1 r2 s0 s1 s2
      refine hI1.out.mono ?_
      rintro e w2 ⟨rfl, hb2⟩
      have hB2 := hB1.trans (hb2.mono hs1)
      have bm2 := bm1.all hb2
      have bn2 := bn1.all hb2
      have r0 := bm2.cell 0
      have r1 := bm2.cell 1
      have r2 := bm2.cell 2
      have s0 := bn2.cell 0
      have s1 := bn2.cell 1
      have s2 := bn2.cell 2
      go_wp2_with fail
      clear r0 r1 r2 s0 s1 s2
      refine (hI2.out _ hB2).mono ?_
      rintro e w3 ⟨rfl, hb3⟩
      have hB3 := hB2.trans (hb3.mono hB2.size)
      have bm3 := bm2.all hb3
      have bn3 := bn2.all hb3
      have r0 := bm3.cell 0
      have r1 := bm3.cell 1
      have r2 := bm3.cell 2
      have s0 := bn3.cell 0
      have s1 := bn3.cell 1
      have s2 := bn3.cell 2
      clear hI1 hI2 bm1 bm2 bn1 bn2
      have hM := isM_iff.1 hm
      have hN := isM_iff.1 hq
      obtain ⟨e1, e2⟩ := yes hm hq
      have hIs := hide (l10Isos_any w3 T A n c B m k A2 n2 c2 B2 m2 k2 true ((h.below hB3).more hB3.size) ((h'.below hB3).more hB3.size) ((g.below hB3).more hB3.size) ((g'.below hB3).more hB3.size) hM hN)
      cases hal : T.all with
      | nil =>
        have HE := hide (e1 hal)
        rw [hal, show tk true ([] : List (List Int)) = [] from rfl] at hIs
        clear e1 e2 yes
        go_wp2_with fail
        clear r0 r1 r2 s0 s1 s2
        refine hIs.out.mono ?_
        rintro e w4 ⟨v, rfl, hE, hb4⟩
        obtain ⟨Av, cv, rfl, _⟩ := OwL.rd (P := fun _ _ => True) hE fun _ _ _ _ => trivial
        have hB4 := hB3.trans (hb4.mono hB3.size)
        go_wp2_with fail
        refine bodyPost_ret (v := .tuple #[.slice none 0 0, .int .i64 4]) (by simp [results, Tryz.results7, go_sem]) rfl ?_
        exact ⟨_, by rw [HE.out.2], by rw [HE.out.1]; exact hnil w4, hB4⟩
      | cons x r =>
        have HE := hide (e2 x r hal)
        rw [hal, show tk true (x :: r) = [x] from rfl] at hIs
        clear e1 e2 yes
        go_wp2_with fail
        clear r0 r1 r2 s0 s1 s2
        refine hIs.out.mono ?_
        rintro e w4 ⟨v, rfl, hE, hb4⟩
        obtain ⟨Av, cv, rfl, _⟩ := OwL.rd (P := fun _ _ => True) hE fun _ _ _ _ => trivial
        have hB4 := hB3.trans (hb4.mono hB3.size)
        obtain ⟨u, fk, hcu, hEu, hfk, _, _⟩ := OwL.focus kp1 hE (k := 0) (x := x) rfl
        obtain ⟨ga, rfl, c0⟩ := hcu _ _ _ rfl
        obtain ⟨Au, cu, rfl⟩ := hEu.own.val
        have hbd := hE.bd
        go_wp2_with fail
        refine bodyPost_ret (v := .tuple #[.slice Au x.length cu, .int .i64 0]) (by simp [results, Tryz.results7, go_sem]) rfl ?_
        exact ⟨_, by rw [HE.out.2], by rw [HE.out.1]; exact E1.mono hEu (fun b hb => ⟨by have := (hfk b hb).1; have := hB3.size; omega, hbd b (hfk b hb)⟩) (fun b hb => hb.2), hB4⟩
/-- Where the variables of a call of eachIsometry lie. -/
structure Cf where
  T : Two
  w : World
  B0 : Nat
  L : Nat
  N : Nat
  A : Option Addr
  c : Nat
  B : Option Addr
  k : Nat
  A2 : Option Addr
  n2 : Nat
  c2 : Nat
  B2 : Option Addr
  k2 : Nat
  Ao : Option Addr
  co : Nat
  a0 : Nat
  a1 : Nat
  a2 : Nat
  a3 : Nat
  a4 : Nat
  a5 : Nat
  a6 : Nat
  a7 : Nat
  X : Nat
  fe : Nat
  stop : Bool
structure CfOk (C : Cf) : Prop where
  hT : TwoOk C.T
  hL : C.T.os.length = C.L
  hN : C.T.us.length = C.N
  h : Sl C.w C.B0 C.A C.L C.c C.T.os
  h' : Sl C.w C.B0 C.B C.N C.k C.T.vs
  g : Sl C.w C.B0 C.A2 C.n2 C.c2 C.T.ps
  g' : Sl C.w C.B0 C.B2 C.N C.k2 C.T.us
  hB : C.B0 ≤ C.X
  hX : C.X < C.w.heap.size
  w0 : C.w.heap.size ≤ C.a0
  w1 : C.w.heap.size ≤ C.a1
  w2 : C.w.heap.size ≤ C.a2
  w3 : C.w.heap.size ≤ C.a3
  w4 : C.w.heap.size ≤ C.a4
  w5 : C.w.heap.size ≤ C.a5
  w6 : C.w.heap.size ≤ C.a6
  w7 : C.w.heap.size ≤ C.a7
  n0 : C.a0 ≠ C.a3
  n1 : C.a1 ≠ C.a3
  n2 : C.a2 ≠ C.a3
  n4 : C.a4 ≠ C.a3
  n5 : C.a5 ≠ C.a3
  n6 : C.a6 ≠ C.a3
  n7 : C.a7 ≠ C.a3
/-- All lies in its place, the variable images holding the slice v. -/
structure ExI (C : Cf) (pre : List Int) (v : Value) (W : World) : Prop where
  b0 : Blk W C.a0 26 #[.slice C.A C.L C.c, .int .i64 C.T.D, .slice C.B C.N C.k]
  b1 : Blk W C.a1 26 #[.slice C.A2 C.n2 C.c2, .int .i64 C.T.E, .slice C.B2 C.N C.k2]
  b2 : Blk W C.a2 49 #[.func (.func C.fe) #[] #[.pointer (some ⟨C.X, 0, none⟩)]]
  b3 : Blk W C.a3 24 #[v]
  im : Ow W C.w.heap.size v pre
  b4 : Blk W C.a4 24 #[.slice C.Ao C.L C.co]
  ow : Ow W C.w.heap.size (.slice C.Ao C.L C.co) (genL C.T.os)
  ap : Apart (.slice C.Ao C.L C.co) v
  b5 : Blk W C.a5 81 #[.func (.func 60) #[] #[]]
  b6 : Blk W C.a6 80 #[.func (.func 61) #[] #[.pointer (some ⟨C.a0, 0, none⟩), .pointer (some ⟨C.a1, 0, none⟩), .pointer (some ⟨C.a3, 0, none⟩), .pointer (some ⟨C.a5, 0, none⟩)]]
  b7 : Blk W C.a7 80 #[.func (.func 64) #[] #[.pointer (some ⟨C.a3, 0, none⟩), .pointer (some ⟨C.a4, 0, none⟩), .pointer (some ⟨C.a6, 0, none⟩), .pointer (some ⟨C.a2, 0, none⟩), .pointer (some ⟨C.a1, 0, none⟩), .pointer (some ⟨C.a0, 0, none⟩), .pointer (some ⟨C.a5, 0, none⟩), .pointer (some ⟨C.a7, 0, none⟩)]]
  fr : Below C.B0 C.w W
section
variable {C : Cf} {pre : List Int} {v : Value} {W W' : World}
theorem ExI.wr (h : ExI C pre v W) (ok : CfOk C) (hw : Wr W W' (fun b => b = C.X)) : ExI C pre v W' := by
  have hX := ok.hX
  have := ok.w0; have := ok.w1; have := ok.w2; have := ok.w3; have := ok.w4; have := ok.w5; have := ok.w6; have := ok.w7
  have hB := ok.hB
  have hs := h.fr.size
  exact ⟨hw.blk h.b0 (by omega), hw.blk h.b1 (by omega), hw.blk h.b2 (by omega), hw.blk h.b3 (by omega), hw.own h.im (fun b hb => by have := h.im.lt b hb; omega), hw.blk h.b4 (by omega), hw.own h.ow (fun b hb => by have := h.ow.lt b hb; omega), h.ap,
    hw.blk h.b5 (by omega), hw.blk h.b6 (by omega), hw.blk h.b7 (by omega), h.fr.trans (hw.below (fun b hb => by omega) (by have := h.fr.size; omega))⟩
theorem ExI.below (h : ExI C pre v W) (ok : CfOk C) (hb : Below W.heap.size W W') : ExI C pre v W' := h.wr ok (Wr.of_below hb)
theorem ExI.sz (h : ExI C pre v W) : C.w.heap.size ≤ W.heap.size := h.fr.size
/-- One image more. -/
theorem ExI.push (h : ExI C pre v W) (ok : CfOk C) {y : Int} {g cap : Nat} {w8 : World} (hP : Pushed (W.alloc (.cells #[.int .i64 y] 2)) C.w.heap.size v pre y W.heap.size g cap w8) :
    ExI C (pre ++ [y]) (.slice (some ⟨g, 0, none⟩) (pre.length + 1) cap) (w8.setCell ⟨C.a3, 0, none⟩ (.slice (some ⟨g, 0, none⟩) (pre.length + 1) cap)) := by
  have ha := h.im.alloc (.cells #[.int .i64 y] 2)
  have b3 := hP.blk ha (h.b3.alloc _) (by decide)
  have hB := ok.hB; have hX := ok.hX; have hs := h.fr.size; have h3 := ok.w3
  refine ⟨(hP.blk ha (h.b0.alloc _) (by decide)).far ok.n0 _, (hP.blk ha (h.b1.alloc _) (by decide)).far ok.n1 _, (hP.blk ha (h.b2.alloc _) (by decide)).far ok.n2 _, b3.store 0 _, hP.own.setCell b3 (by decide) 0 _,
    (hP.blk ha (h.b4.alloc _) (by decide)).far ok.n4 _, (hP.far (h.ow.alloc _) h.ap).setCell b3 (by decide) 0 _, ?_,
    (hP.blk ha (h.b5.alloc _) (by decide)).far ok.n5 _, (hP.blk ha (h.b6.alloc _) (by decide)).far ok.n6 _, (hP.blk ha (h.b7.alloc _) (by decide)).far ok.n7 _, ?_⟩
  · exact hP.apart (n := pre.length + 1) (fun b hb => by have := h.ow.lt b hb; omega) h.ap
  · have h8 := hP.below ha (by simp; omega)
    exact ((h.fr.alloc (by omega) _).trans (h8.mono (by omega))).setCell (by show C.B0 ≤ C.a3; omega) _
theorem ExI.pushWr (h : ExI C pre v W) (ok : CfOk C) {y : Int} {g cap : Nat} {w8 : World} (hP : Pushed (W.alloc (.cells #[.int .i64 y] 2)) C.w.heap.size v pre y W.heap.size g cap w8) (u : Value) :
    Wr W (w8.setCell ⟨C.a3, 0, none⟩ u) (fun b => C.w.heap.size ≤ b) := by
  have ha := h.im.alloc (.cells #[.int .i64 y] 2)
  have h1 : Wr W (W.alloc (.cells #[.int .i64 y] 2)) (fun b => C.w.heap.size ≤ b) := Wr.of_below ((Below.refl _ _).alloc (Nat.le_refl _) _)
  have h2 : Wr (W.alloc (.cells #[.int .i64 y] 2)) w8 (fun b => C.w.heap.size ≤ b) := Wr.of_grown hP.2.1 (fun b hb => (ha.lt b hb).1)
  have h3 := h1.trans h2
  exact ⟨h3.os, h3.tape, h3.output, by simp [World.setCell]; exact h3.size, fun b hb hn => (Below.heap_setCell w8 ⟨C.a3, 0, none⟩ u b (fun e => hn (by rw [show b = C.a3 from e]; exact ok.w3))).trans (h3.block b hb hn)⟩
theorem Ow.cut {w : World} {B g n cap : Nat} {xs ys : List Int} (h : Ow w B (.slice (some ⟨g, 0, none⟩) n cap) (xs ++ ys)) : Ow w B (.slice (some ⟨g, 0, none⟩) xs.length cap) xs := by
  obtain ⟨h1, h2⟩ := h
  rcases h2 with ⟨h2, _⟩ | ⟨g', cap', cur, hv, hg, hh, hn, hm, hs, hx⟩
  · cases h2
  · cases hv
    rw [List.length_append] at hn hx
    refine ⟨by simp, .inr ⟨g, cap, cur, rfl, hg, hh, by omega, hm, hs, ?_⟩⟩
    have e : cur.toList.take (xs.length * 1) = (cur.toList.take ((xs.length + ys.length) * 1)).take (xs.length * 1) := by rw [List.take_take, Nat.min_eq_left (by omega)]
    rw [e, hx, List.map_append, List.take_append_of_le_length (by simp), List.take_of_length_le (by simp)]
/-- The last image taken away. -/
theorem ExI.cut {y : Int} {g cap : Nat} (h : ExI C (pre ++ [y]) (.slice (some ⟨g, 0, none⟩) (pre.length + 1) cap) W) (ok : CfOk C) :
    ExI C pre (.slice (some ⟨g, 0, none⟩) pre.length cap) (W.setCell ⟨C.a3, 0, none⟩ (.slice (some ⟨g, 0, none⟩) pre.length cap)) := by
  have hB := ok.hB; have hX := ok.hX; have h3 := ok.w3
  exact ⟨h.b0.far ok.n0 _, h.b1.far ok.n1 _, h.b2.far ok.n2 _, h.b3.store 0 _, h.im.cut.setCell h.b3 (by decide) 0 _, h.b4.far ok.n4 _, h.ow.setCell h.b3 (by decide) 0 _, h.ap, h.b5.far ok.n5 _, h.b6.far ok.n6 _, h.b7.far ok.n7 _,
    h.fr.setCell (by show C.B0 ≤ C.a3; omega) _⟩
theorem wr_set3 (ok : CfOk C) (u : Value) : Wr W (W.setCell ⟨C.a3, 0, none⟩ u) (fun b => C.w.heap.size ≤ b) :=
  ⟨rfl, rfl, rfl, by simp [World.setCell], fun b hb hn => Below.heap_setCell W ⟨C.a3, 0, none⟩ u b (fun e => hn (by rw [show b = C.a3 from e]; exact ok.w3))⟩
end
/-- What extend leaves. -/
def ExP (C : Cf) (Acc : World → List (List Int) → Prop) (Fin : World → List Int → Prop) (r : Nat) (pre : List Int) (acc : List (List Int)) (e : Ending) (W' : World) : Prop :=
  (e = .returned (.bool false) ∧ (∃ v, ExI C pre v W') ∧ Acc W' (acc ++ C.T.isos r pre) ∧ (C.stop = true → C.T.isos r pre = [])) ∨
  (C.stop = true ∧ ∃ x l, C.T.isos r pre = x :: l ∧ e = .returned (.bool true) ∧ Fin W' x ∧ Below C.B0 C.w W')
end Go.Proofs.YtonehmjoolflfaaGreatDoor
