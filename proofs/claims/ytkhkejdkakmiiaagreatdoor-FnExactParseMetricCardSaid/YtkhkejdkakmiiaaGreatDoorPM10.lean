
/- The walk of the program's ParseMetric. -/
import Derived.Test.YtkhkejdkakmiiaaGreatDoorPM9
namespace Go.Proofs.YtkhkejdkakmiiaaGreatDoor
open Go Go.RowKit Go.Shelf Grp
set_option linter.unusedSimpArgs false
set_option linter.unusedVariables false
set_option maxRecDepth 100000
def cutLay_ren : Go.Shelf.Ren := ⟨fun | 145 => 14 | 220 => 31 | 219 => 47 | 217 => 60 | 225 => 61 | 224 => 62 | 267 => 63 | 266 => 78 | 314 => 79 | n => n, fun | 9 => 9 | 4 => 4 | 59 => 36 | 3 => 3 | 5 => 5 | 46 => 76 | 146 => 94 | 51 => 93 | n => n, fun | 1 => 0 | n => n⟩
theorem cutLay : Go.Proofs.Lays.n145 Tryz.prog cutLay_ren := {
  mixed := by kernel_rfl
  f145 := Tryz.func14.trans (congrArg some (by kernel_rfl))
  f217 := Tryz.func60.trans (congrArg some (by kernel_rfl))
  f219 := Tryz.func47.trans (congrArg some (by kernel_rfl))
  f220 := Tryz.func31.trans (congrArg some (by kernel_rfl))
  f224 := Tryz.func62.trans (congrArg some (by kernel_rfl))
  f225 := Tryz.func61.trans (congrArg some (by kernel_rfl))
  f266 := Tryz.func78.trans (congrArg some (by kernel_rfl))
  f267 := Tryz.func63.trans (congrArg some (by kernel_rfl))
  f314 := Tryz.func79.trans (congrArg some (by kernel_rfl))
  t3 := Tryz.underlying3
  a3 := Tryz.isAgg3
  z3 := Tryz.sizeOf3
  v3 := Tryz.zeroValue3
  t4 := Tryz.underlying4
  a4 := Tryz.isAgg4
  z4 := Tryz.sizeOf4
  v4 := Tryz.zeroValue4
  t5 := Tryz.underlying5
  a5 := Tryz.isAgg5
  z5 := Tryz.sizeOf5
  v5 := Tryz.zeroValue5
  t9 := Tryz.underlying9
  a9 := Tryz.isAgg9
  z9 := Tryz.sizeOf9
  v9 := Tryz.zeroValue9
  t46 := Tryz.underlying76
  a46 := Tryz.isAgg76
  z46 := Tryz.sizeOf76
  v46 := Tryz.zeroValue76
  t51 := Tryz.underlying93
  a51 := Tryz.isAgg93
  z51 := Tryz.sizeOf93
  v51 := Tryz.zeroValue93
  t59 := Tryz.underlying36
  a59 := Tryz.isAgg36
  z59 := Tryz.sizeOf36
  v59 := Tryz.zeroValue36
  t146 := Tryz.underlying94
  a146 := Tryz.isAgg94
  z146 := Tryz.sizeOf94
  v146 := Tryz.zeroValue94
  g1 := by kernel_rfl }
theorem cut_c (w : World) (s c : ByteArray) (m : Int) (hs : s.size ≤ 1048576) (hm : w.cell? ⟨0, 0, none⟩ = some (.int .i64 m)) :
    Calls Tryz.prog 14 #[.string s, .string c] w (Re w (.tuple #[.string (cut1 s c), .string (cut2 s c), .bool (Lib.cut s.data.toList c.data.toList).2.2])) :=
  (Any.strings_Cut cutLay s c m w (by omega) hm).mono fun e w' h => by
    obtain ⟨h1, n, rfl⟩ := h
    exact ⟨h1, ⟨rfl, rfl, rfl, Nat.le_refl _, fun _ _ => rfl⟩⟩
theorem cut_sizes (s c : ByteArray) : (cut1 s c).size ≤ s.size ∧ (cut2 s c).size ≤ s.size := by
  unfold cut1 cut2 Lib.cut
  rw [Lib.size_eq s]
  split <;> refine ⟨?_, ?_⟩ <;> rw [Lib.size_eq] <;> simp <;> omega
theorem E1.put {w : World} {v : Value} {xs : List Int} {fp : Nat → Prop} {g : Nat} (h : E1 w v xs fp) (hg : ¬ fp g) (i : Nat) (u : Value) : E1 (w.setCell ⟨g, i, none⟩ u) v xs fp :=
  kp1 _ _ _ _ _ h (fun b hb => Below.heap_setCell w ⟨g, i, none⟩ u b (fun e => hg (by rw [← show b = g from e]; exact hb))) (by simp [World.setCell])
theorem E1.put3 {w : World} {v : Value} {xs : List Int} {fp : Nat → Prop} {g : Nat} (h : E1 w v xs fp) (hg : ¬ fp g) (x y z : Value) : E1 (put3 w g x y z) v xs fp := ((h.put hg 0 x).put hg 1 y).put hg 2 z
theorem metric_none (w : World) (fp : Nat → Prop) (hf : ∀ b, fp b → b < w.heap.size) : metric_E w (.agg #[.slice none 0 0, .int .i64 0, .slice none 0 0]) ([], 0, []) fp :=
  ⟨(by decide : (-9223372036854775808 : Int) ≤ 0 ∧ (0 : Int) ≤ 9223372036854775807), _, _, fun _ => False, fun _ => False, rfl, ⟨Ow.nil _ _, by simp, fun b hb => by simp [Value.ownBlock] at hb, fun b hb => hb.elim⟩, ⟨Ow.nil _ _, by simp, fun b hb => by simp [Value.ownBlock] at hb, fun b hb => hb.elim⟩, fun b hb => hb.elim, fun b hb => hb.elim, fun b hb => hb.elim, hf⟩
theorem metric_put3 {w : World} {v : Value} {xx : metric_T} {fp : Nat → Prop} {g : Nat} (h : metric_E w v xx fp) (hg : ¬ fp g) (x y z : Value) : metric_E (put3 w g x y z) v xx fp :=
  metric_kp _ _ _ _ _ h (fun b hb => by
    have hne : b ≠ g := fun e => hg (e ▸ hb)
    unfold put3
    rw [Below.heap_setCell _ ⟨g, 2, none⟩ z b hne, Below.heap_setCell _ ⟨g, 1, none⟩ y b hne, Below.heap_setCell _ ⟨g, 0, none⟩ x b hne]) (by rw [put3_size]; exact Nat.le_refl _)
set_option maxHeartbeats 4000000 in
theorem implPM_any (w : World) (s : ByteArray) (hs : s.size ≤ 1048576) (hT : TbZ w) : Calls Tryz.prog 5 #[.string s] w (MkEC metric_E w (pmX s) (pmC s)) := by
  have z1 := cut_sizes s c59
  have z2 := cut_sizes (cut2 s c59) c58
  have hX := hide (show pgX s = (riL (cut1 s c59), rdV (cut1 (cut2 s c59) c58), riL (cut2 (cut2 s c59) c58)) from rfl)
  have hI := hide (show ∀ x, Txt s x → riB (cut1 s c59) = true ∧ rdB (cut1 (cut2 s c59) c58) = true ∧ riB (cut2 (cut2 s c59) c58) = true from fun x h => (pg_txt h).2)
  have hG := hide (show ∀ x, Txt s x → x = pgX s from fun x h => (pg_txt h).1.symm)
  have y1 := cut_c w s c59
  obtain ⟨m, hm⟩ := hT.m
  go_enter Tryz.func5, Tryz.ntmps5
  go_wp2_with fail
  obtain ⟨W, hW⟩ : ∃ W, w.alloc (.cells #[.slice none 0 0, .int .i64 0, .slice none 0 0] 24) = W := ⟨_, rfl⟩
  have hbW : Below w.heap.size w W := by rw [← hW]; exact (by repeat (first | assumption | exact Below.refl _ _ | apply below_drewN | apply Below.drew | apply Below.alloc | apply Below.setCell | omega | (focus (simp; done)) | (focus (simp; omega))))
  have hszW : w.heap.size < W.heap.size := by rw [← hW]; simp
  have bR : Blk W w.heap.size 24 #[.slice none 0 0, .int .i64 0, .slice none 0 0] := by rw [← hW]; exact Blk.new _ _ _
  rw [hW]
  clear hW y1
  have hml := World.block_lt_of_cell? _ _ hm
  refine (cut_c W s c59 m hs ((hbW.cell hml).trans hm)).mono ?_
  rintro e w1 ⟨rfl, hb1⟩
  have k1 := hbW.trans (hb1.mono hbW.size)
  have b1 := bR.all hb1
  obtain ⟨so, eso⟩ : ∃ x, cut1 s c59 = x := ⟨_, rfl⟩
  obtain ⟨sr, esr⟩ : ∃ x, cut2 s c59 = x := ⟨_, rfl⟩
  rw [eso] at hX hI z1 ⊢
  rw [esr] at hX hI z1 z2 ⊢
  obtain ⟨q1, eq1⟩ : ∃ x, (Lib.cut s.data.toList c59.data.toList).2.2 = x := ⟨_, rfl⟩
  rw [eq1]
  clear eso esr eq1
  go_wp2_with fail
  refine (cut_c w1 sr c58 m (by omega) ((k1.cell hml).trans hm)).mono ?_
  rintro e w2 ⟨rfl, hb2⟩
  have k2 := k1.trans (hb2.mono k1.size)
  have b2 := b1.all hb2
  obtain ⟨sm, esm⟩ : ∃ x, cut1 sr c58 = x := ⟨_, rfl⟩
  obtain ⟨sv, esv⟩ : ∃ x, cut2 sr c58 = x := ⟨_, rfl⟩
  obtain ⟨q2, eq2⟩ : ∃ x, (Lib.cut sr.data.toList c58.data.toList).2.2 = x := ⟨_, rfl⟩
  rw [esm] at hX hI z2 ⊢
  rw [esv] at hX hI z2 ⊢
  rw [eq2]
  clear esm esv eq2
  have hszR : w.heap.size < w2.heap.size := by have := hb1.size; have := hb2.size; omega
  clear hb1 hb2 k1 b1 bR hm hml
  go_wp2_with fail
  obtain ⟨G, hG0⟩ : ∃ G, w2.heap.size = G := ⟨_, rfl⟩
  obtain ⟨W3, hW3⟩ : ∃ W, w2.alloc (.cells #[.slice none 0 0, .int .i64 0, .slice none 0 0] 24) = W := ⟨_, rfl⟩
  have k3 : Below w.heap.size w W3 := by rw [← hW3]; exact k2.alloc k2.size _
  have bM3 : Blk W3 G 24 #[.slice none 0 0, .int .i64 0, .slice none 0 0] := by rw [← hW3, ← hG0]; exact Blk.new _ _ _
  have b3 : Blk W3 w.heap.size 24 #[.slice none 0 0, .int .i64 0, .slice none 0 0] := by rw [← hW3]; exact b2.alloc _
  have hGW := bM3.lt
  rw [hW3, hG0]
  rw [hG0] at hszR
  clear hW3 hG0 b2 k2
  refine (readIntegers_any W3 so (by omega) (hT.bel k3)).mono ?_
  rintro e w4 ⟨v1, rfl, e1, hb4⟩
  have k4 := k3.trans (hb4.mono k3.size)
  have bM4 := bM3.all hb4
  have b4 := b3.all hb4
  have hz4 := hb4.size
  obtain ⟨one, h1⟩ : ∃ x, riB so = x := ⟨_, rfl⟩
  obtain ⟨os, hos⟩ : ∃ x, riL so = x := ⟨_, rfl⟩
  have hol := riL_len so
  rw [hos] at hX e1 hol
  rw [h1] at hI ⊢
  clear h1 hos hb4 k3 bM3 b3
  obtain ⟨A1, c1, rfl⟩ := e1.own.val
  have r0 := bM4.cell 0
  have f0 := bM4.frozen 0
  go_wp2_with fail
  clear r0 f0
  obtain ⟨W5, hW5⟩ : ∃ W, w4.setCell ⟨G, 0, none⟩ (.slice A1 os.length c1) = W := ⟨_, rfl⟩
  have k5 : Below w.heap.size w W5 := by rw [← hW5]; exact k4.setCell (Nat.le_of_lt hszR) _
  have bM5 : Blk W5 G 24 #[.slice A1 os.length c1, .int .i64 0, .slice none 0 0] := by rw [← hW5]; exact bM4.store 0 _
  have b5 : Blk W5 w.heap.size 24 #[.slice none 0 0, .int .i64 0, .slice none 0 0] := by rw [← hW5]; exact b4.far (by show w.heap.size ≠ G; omega) _
  have hz5 : w4.heap.size = W5.heap.size := by rw [← hW5]; simp [World.setCell]
  have e5 : E1 W5 (.slice A1 os.length c1) os (fun b => W3.heap.size ≤ b ∧ b < w4.heap.size) := by rw [← hW5]; exact e1.put (by omega) _ _
  rw [hW5]
  clear hW5 e1 b4 bM4 k4
  refine (readDecimal_any W5 sm (by omega) (hT.bel k5)).mono ?_
  rintro e w6 ⟨rfl, hb6⟩
  have k6 := k5.trans (hb6.mono k5.size)
  have bM6 := bM5.all hb6
  have b6 := b5.all hb6
  have hz6 := hb6.size
  have e6 := e5.below hb6
  obtain ⟨two, h2⟩ : ∃ x, rdB sm = x := ⟨_, rfl⟩
  obtain ⟨D, hD⟩ : ∃ x, rdV sm = x := ⟨_, rfl⟩
  have hDok := hide (show two = true → i64ok D from fun h => by rw [← hD]; exact rdV_ok (h2.trans h))
  rw [hD] at hX ⊢
  rw [h2] at hI ⊢
  clear h2 hD hb6 k5 bM5 b5 e5
  have r1 := bM6.cell 1
  have f1 := bM6.frozen 1
  go_wp2_with fail
  clear r1 f1
  obtain ⟨W7, hW7⟩ : ∃ W, w6.setCell ⟨G, 1, none⟩ (.int .i64 D) = W := ⟨_, rfl⟩
  have k7 : Below w.heap.size w W7 := by rw [← hW7]; exact k6.setCell (Nat.le_of_lt hszR) _
  have bM7 : Blk W7 G 24 #[.slice A1 os.length c1, .int .i64 D, .slice none 0 0] := by rw [← hW7]; exact bM6.store 1 _
  have b7 : Blk W7 w.heap.size 24 #[.slice none 0 0, .int .i64 0, .slice none 0 0] := by rw [← hW7]; exact b6.far (by show w.heap.size ≠ G; omega) _
  have hz7 : w6.heap.size = W7.heap.size := by rw [← hW7]; simp [World.setCell]
  have e7 : E1 W7 (.slice A1 os.length c1) os (fun b => W3.heap.size ≤ b ∧ b < w4.heap.size) := by rw [← hW7]; exact e6.put (by omega) _ _
  rw [hW7]
  clear hW7 e6 b6 bM6 k6
  refine (readIntegers_any W7 sv (by omega) (hT.bel k7)).mono ?_
  rintro e w8 ⟨v3, rfl, g8, hb8⟩
  obtain ⟨A3, c3, rfl⟩ := g8.own.val
  have k8 := k7.trans (hb8.mono k7.size)
  have bM8 := bM7.all hb8
  have b8 := b7.all hb8
  have hz8 := hb8.size
  have e8 := e7.below hb8
  obtain ⟨three, h3⟩ : ∃ x, riB sv = x := ⟨_, rfl⟩
  obtain ⟨vs, hvs⟩ : ∃ x, riL sv = x := ⟨_, rfl⟩
  have hvl := riL_len sv
  rw [hvs] at hX g8 hvl ⊢
  rw [h3] at hI ⊢
  clear h3 hvs hb8 k7 bM7 b7 e7
  have r2 := bM8.cell 2
  have f2 := bM8.frozen 2
  obtain ⟨W9, hW9⟩ : ∃ W, w8.setCell ⟨G, 2, none⟩ (.slice A3 vs.length c3) = W := ⟨_, rfl⟩
  have k9 : Below w.heap.size w W9 := by rw [← hW9]; exact k8.setCell (Nat.le_of_lt hszR) _
  have bM9 : Blk W9 G 24 #[.slice A1 os.length c1, .int .i64 D, .slice A3 vs.length c3] := by rw [← hW9]; exact bM8.store 2 _
  have b9 : Blk W9 w.heap.size 24 #[.slice none 0 0, .int .i64 0, .slice none 0 0] := by rw [← hW9]; exact b8.far (by show w.heap.size ≠ G; omega) _
  have hz9 : w8.heap.size = W9.heap.size := by rw [← hW9]; simp [World.setCell]
  have e9 : E1 W9 (.slice A1 os.length c1) os (fun b => W3.heap.size ≤ b ∧ b < w4.heap.size) := by rw [← hW9]; exact e8.put (by omega) _ _
  have g9 : E1 W9 (.slice A3 vs.length c3) vs (fun b => W7.heap.size ≤ b ∧ b < w8.heap.size) := by rw [← hW9]; exact g8.put (by omega) _ _
  clear e8 g8 b8 bM8 k8
  by_cases hall : (one && two && three) = false
  · have hno := pm_no (s := s) fun ⟨x, hx⟩ => by
      obtain ⟨a1, a2, a3⟩ := hI.out x hx
      rw [a1, a2, a3] at hall; cases hall
    have HN1 := hide hno.1
    have HN2 := hide hno.2
    clear hno hI hX hG
    have hres := b9
    have r0 := hres.cell 0
    have r1 := hres.cell 1
    have r2 := hres.cell 2
    have f0 := hres.frozen 0
    have f1 := hres.frozen 1
    have f2 := hres.frozen 2
    cases one with
    | false =>
      go_wp2_with fail
      have hb3 := put3_blk (x := .slice none 0 0) (y := .int .i64 0) (z := .slice none 0 0) hres
      have q0 := hb3.cell 0
      have q1 := hb3.cell 1
      have q2 := hb3.cell 2
      unfold put3 at q0 q1 q2
      refine bodyPost_ret (v := .tuple #[.agg #[.slice none 0 0, .int .i64 0, .slice none 0 0], .int .i64 6]) (by simp [results, Tryz.results5, go_sem, q0, q1, q2]) rfl ?_
      exact ⟨_, by rw [HN2.out], by rw [HN1.out]; exact metric_none _ _ (fun b hb => hb.2), put3_below k9 (Nat.le_refl _)⟩
    | true =>
      cases two with
      | false =>
        go_wp2_with fail
        have hb3 := put3_blk (x := .slice none 0 0) (y := .int .i64 0) (z := .slice none 0 0) hres
        have q0 := hb3.cell 0
        have q1 := hb3.cell 1
        have q2 := hb3.cell 2
        unfold put3 at q0 q1 q2
        refine bodyPost_ret (v := .tuple #[.agg #[.slice none 0 0, .int .i64 0, .slice none 0 0], .int .i64 6]) (by simp [results, Tryz.results5, go_sem, q0, q1, q2]) rfl ?_
        exact ⟨_, by rw [HN2.out], by rw [HN1.out]; exact metric_none _ _ (fun b hb => hb.2), put3_below k9 (Nat.le_refl _)⟩
      | true =>
        cases three with
        | false =>
          go_wp2_with fail
          have hb3 := put3_blk (x := .slice none 0 0) (y := .int .i64 0) (z := .slice none 0 0) hres
          have q0 := hb3.cell 0
          have q1 := hb3.cell 1
          have q2 := hb3.cell 2
          unfold put3 at q0 q1 q2
          refine bodyPost_ret (v := .tuple #[.agg #[.slice none 0 0, .int .i64 0, .slice none 0 0], .int .i64 6]) (by simp [results, Tryz.results5, go_sem, q0, q1, q2]) rfl ?_
          exact ⟨_, by rw [HN2.out], by rw [HN1.out]; exact metric_none _ _ (fun b hb => hb.2), put3_below k9 (Nat.le_refl _)⟩
        | true => cases hall
  · obtain ⟨rfl, rfl, rfl⟩ : one = true ∧ two = true ∧ three = true := by simpa using hall
    clear hall
    have p0 := bM9.cell 0
    have p1 := bM9.cell 1
    have p2 := bM9.cell 2
    have s1 : Sl W9 W9.heap.size A1 os.length c1 os := by obtain ⟨A, c, e, h⟩ := e9.sl; cases e; exact h
    have s3 : Sl W9 W9.heap.size A3 vs.length c3 vs := by obtain ⟨A, c, e, h⟩ := g9.sl; cases e; exact h
    cases hm : isM os D vs with
    | false =>
      have hno := pm_no (s := s) fun ⟨x, hx⟩ => by
        have e1 := hG.out x hx
        rw [hX.out] at e1
        have e2 := hx.1
        rw [e1] at e2
        rw [hm] at e2; cases e2
      have HN1 := hide hno.1
      have HN2 := hide hno.2
      have hI2 := hide (implIs_v false W9 A1 os.length c1 os D A3 vs.length c3 vs s1 s3 (by omega) (by omega) hm)
      clear hno hI hX hG s1 s3 hm
      go_wp2_with fail
      clear p0 p1 p2
      refine hI2.out.mono ?_
      rintro e wi ⟨rfl, hbi⟩
      have hres := b9.all hbi
      have r0 := hres.cell 0
      have r1 := hres.cell 1
      have r2 := hres.cell 2
      have f0 := hres.frozen 0
      have f1 := hres.frozen 1
      have f2 := hres.frozen 2
      go_wp2_with fail
      have hb3 := put3_blk (x := .slice none 0 0) (y := .int .i64 0) (z := .slice none 0 0) hres
      have q0 := hb3.cell 0
      have q1 := hb3.cell 1
      have q2 := hb3.cell 2
      unfold put3 at q0 q1 q2
      refine bodyPost_ret (v := .tuple #[.agg #[.slice none 0 0, .int .i64 0, .slice none 0 0], .int .i64 6]) (by simp [results, Tryz.results5, go_sem, q0, q1, q2]) rfl ?_
      exact ⟨_, by rw [HN2.out], by rw [HN1.out]; exact metric_none _ _ (fun b hb => hb.2), put3_below (k9.trans (hbi.mono k9.size)) (Nat.le_refl _)⟩
    | true =>
      have hI2 := hide (implIs_v true W9 A1 os.length c1 os D A3 vs.length c3 vs s1 s3 (by omega) (by omega) hm)
      have HM := hide hm
      clear hm
      go_wp2_with fail
      clear p0 p1 p2
      refine hI2.out.mono ?_
      rintro e wi ⟨rfl, hbi⟩
      have hres := b9.all hbi
      have bMi := bM9.all hbi
      have p0 := bMi.cell 0
      have p1 := bMi.cell 1
      have p2 := bMi.cell 2
      have ki := k9.trans (hbi.mono k9.size)
      have ei := e9.below hbi
      have gi' := g9.below hbi
      have s1i := (s1.below hbi).more hbi.size
      have s3i := (s3.below hbi).more hbi.size
      clear hI2 s1 s3 e9 g9 b9 bM9
      have hM := (isM_iff.1 HM.out).ok
      have d1 := hM.d1
      have d2 := hM.d2
      have hD : i64ok D := ⟨by omega, by omega⟩
      have o1 : ∀ x ∈ os, i64ok x := fun x hx => by have := hM.g.m2 x hx; have := hM.g.m16 x hx; exact ⟨by omega, by omega⟩
      have o2 : ∀ x ∈ os, 0 ≤ x := fun x hx => by have := hM.g.m2 x hx; omega
      have q1 : ∀ x ∈ vs, i64ok x := fun x hx => by have := hM.rng x hx; exact ⟨by omega, by omega⟩
      have q2 : ∀ x ∈ vs, 0 ≤ x := fun x hx => (hM.rng x hx).1
      have HMT := hide (metricText_any wi A1 os.length c1 os D A3 vs.length c3 vs s1i s3i o1 q1 hD o2 q2 (by omega) (by omega) (by omega) (hT.bel ki).p)
      have hzi := hbi.size
      have HE := hide (show metric_E wi (.agg #[.slice A1 os.length c1, .int .i64 D, .slice A3 vs.length c3]) (os, D, vs) (fun b => G < b ∧ b < wi.heap.size) from
        ⟨hD, _, _, _, _, rfl, ei, gi', fun b h1 h2 => by omega, fun b h => by omega, fun b h => by omega, fun b h => h.2⟩)
      clear hM d1 d2 hD o1 o2 q1 q2 s1i s3i ei gi'
      obtain ⟨T, hT2⟩ : ∃ T, metText os D vs = T := ⟨_, rfl⟩
      rw [hT2] at HMT
      have HT2 := hide hT2
      clear hT2
      by_cases hTs : T = s
      · subst hTs
        have hy := pm_yes (s := T) (x := (os, D, vs)) ⟨HM.out, HT2.out⟩
        have HN1 := hide hy.1
        have HN2 := hide hy.2
        clear hy hI hX hG
        go_wp2_with fail
        refine HMT.out.mono ?_
        rintro e wj ⟨rfl, hbj⟩
        have hresj := hres.all hbj
        have bMj := bMi.all hbj
        have Ej := metric_below HE.out hbj
        have kj := ki.trans (hbj.mono ki.size)
        have p0 := bMj.cell 0
        have p1 := bMj.cell 1
        have p2 := bMj.cell 2
        have r0 := hresj.cell 0
        have r1 := hresj.cell 1
        have r2 := hresj.cell 2
        have f0 := hresj.frozen 0
        have f1 := hresj.frozen 1
        have f2 := hresj.frozen 2
        go_wp2_with fail
        have hb3 := put3_blk (x := .slice A1 os.length c1) (y := .int .i64 D) (z := .slice A3 vs.length c3) hresj
        have q0 := hb3.cell 0
        have q1 := hb3.cell 1
        have q2 := hb3.cell 2
        unfold put3 at q0 q1 q2
        refine bodyPost_ret (v := .tuple #[.agg #[.slice A1 os.length c1, .int .i64 D, .slice A3 vs.length c3], .int .i64 0]) (by simp [results, Tryz.results5, go_sem, q0, q1, q2]) rfl ?_
        exact ⟨_, by rw [HN2.out], by rw [HN1.out]; exact metric_mono (metric_put3 Ej (by omega) _ _ _) (fun b hb => ⟨by omega, Nat.lt_of_lt_of_le hb.2 (Nat.le_trans hbj.size (by rw [← put3_size (w := wj)]; exact Nat.le_refl _))⟩) (fun b hb => hb.2), put3_below kj (Nat.le_refl _)⟩
      · have hne : (T.toList == s.toList) = false := by
          rw [beq_eq_false_iff_ne]
          intro e
          rw [ByteArray.toList_eq, ByteArray.toList_eq] at e
          exact hTs (bs_eq e)
        have hno := pm_no (s := s) fun ⟨x, hx⟩ => by
          have e1 := hG.out x hx
          rw [hX.out] at e1
          have e2 := hx.2
          rw [e1] at e2
          exact hTs (HT2.out.symm.trans e2)
        have HN1 := hide hno.1
        have HN2 := hide hno.2
        clear hno hI hX hG hTs HE
        go_wp2_with fail
        refine HMT.out.mono ?_
        rintro e wj ⟨rfl, hbj⟩
        have hresj := hres.all hbj
        have r0 := hresj.cell 0
        have r1 := hresj.cell 1
        have r2 := hresj.cell 2
        have f0 := hresj.frozen 0
        have f1 := hresj.frozen 1
        have f2 := hresj.frozen 2
        go_wp2_with fail
        have hb3 := put3_blk (x := .slice none 0 0) (y := .int .i64 0) (z := .slice none 0 0) hresj
        have q0 := hb3.cell 0
        have q1 := hb3.cell 1
        have q2 := hb3.cell 2
        unfold put3 at q0 q1 q2
        refine bodyPost_ret (v := .tuple #[.agg #[.slice none 0 0, .int .i64 0, .slice none 0 0], .int .i64 6]) (by simp [results, Tryz.results5, go_sem, q0, q1, q2]) rfl ?_
        exact ⟨_, by rw [HN2.out], by rw [HN1.out]; exact metric_none _ _ (fun b hb => hb.2), put3_below (ki.trans (hbj.mono ki.size)) (Nat.le_refl _)⟩
end Go.Proofs.YtkhkejdkakmiiaaGreatDoor
