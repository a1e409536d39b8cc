
/- The walk of the reference's ParseMetric. -/
import Derived.Test.YtkhkejdkakmiiaaGreatDoorPM10
import Derived.Deep.DeepCutAuto
namespace Go.Proofs.YtkhkejdkakmiiaaGreatDoor
open Go Go.RowKit Go.Shelf Grp
set_option linter.unusedSimpArgs false
set_option linter.unusedVariables false
set_option maxRecDepth 100000
theorem pm_none {s : ByteArray} (h : rfX s = none) : pmX s = ([], 0, []) ∧ pmC s = 6 :=
  pm_no fun ⟨x, hx⟩ => by rw [rfX_txt hx] at h; cases h
theorem rfX_1 {s : ByteArray} (h : (spl 59 s.data.toList).length ≠ 2) : rfX s = none := by
  unfold rfX
  split
  · rename_i a b e
    rw [e] at h; exact absurd rfl h
  · rfl
theorem rfX_2 {s : ByteArray} {a b : List UInt8} (e : spl 59 s.data.toList = [a, b]) (h : (spl 58 b).length ≠ 2) : rfX s = none := by
  unfold rfX
  rw [e]
  simp only
  split
  · rename_i d g e2
    rw [e2] at h; exact absurd rfl h
  · rfl
theorem rfX_3 {s : ByteArray} {a b d g : List UInt8} (e : spl 59 s.data.toList = [a, b]) (e2 : spl 58 b = [d, g]) : rfX s = some (lnL a, lv ⟨d.toArray⟩, lnL g) := by
  unfold rfX
  rw [e]
  simp only [e2]
theorem pm_eq {s : ByteArray} {x : metric_T} (h : rfX s = some x) : (Txt s x → pmX s = x ∧ pmC s = 0) ∧ (¬ Txt s x → pmX s = ([], 0, []) ∧ pmC s = 6) :=
  ⟨fun hx => pm_yes hx, fun hx => pm_no fun ⟨y, hy⟩ => by
    have := rfX_txt hy
    rw [h] at this
    injection this with this
    subst this
    exact hx hy⟩
theorem two_of {α β : Type} {ws : List α} {f : α → β} {ls : List β} (h : ws.map f = ls) (h2 : ws.length = 2) : ∃ x y, ws = [x, y] ∧ ls = [f x, f y] := by
  match ws, h2 with
  | [x, y], _ => exact ⟨x, y, rfl, by rw [← h]; rfl⟩
set_option maxHeartbeats 4000000 in
theorem specPM_any (w : World) (s : ByteArray) (hs : s.size ≤ 1048576) : Calls Tryz.prog 4 #[.string s] w (MkEC metric_E w (pmX s) (pmC s)) := by
  go_enter Tryz.func4, Tryz.ntmps4
  go_wp2_with fail
  obtain ⟨W, hW⟩ : ∃ W, w.alloc (.cells #[.slice none 0 0, .int .i64 0, .slice none 0 0] 24) = W := ⟨_, rfl⟩
  have hbW : Below w.heap.size w W := by rw [← hW]; exact (by repeat (first | assumption | exact Below.refl _ _ | apply below_drewN | apply Below.drew | apply Below.alloc | apply Below.setCell | omega | (focus (simp; done)) | (focus (simp; omega))))
  have hszW : w.heap.size < W.heap.size := by rw [← hW]; simp
  have bR : Blk W w.heap.size 24 #[.slice none 0 0, .int .i64 0, .slice none 0 0] := by rw [← hW]; exact Blk.new _ _ _
  rw [hW]
  clear hW
  refine (l01Split_any W s 59 hs).mono ?_
  rintro e w1 ⟨v1, ws1, rfl, hW1, hws1, hsz1, hb1⟩
  have k1 := hbW.trans (hb1.mono hbW.size)
  have b1 := bR.all hb1
  have hz1 := hb1.size
  obtain ⟨A1, c1, rfl⟩ : ∃ A c, v1 = .slice A ws1.length c := by
    rcases hW1.form with ⟨rfl, h⟩ | ⟨g, cap, rfl, _⟩
    · have : ws1 = [] := by simpa using h
      rw [this]; exact ⟨none, 0, rfl⟩
    · exact ⟨some ⟨g, 0, none⟩, cap, by rw [List.length_map]⟩
  obtain ⟨n1, hn1⟩ : ∃ n, ws1.length = n := ⟨_, rfl⟩
  rw [hn1] at hW1 ⊢
  clear hb1 bR
  by_cases h2 : n1 = 2
  · subst h2
    obtain ⟨x, y, rfl, ha⟩ := two_of hws1 hn1
    have hy := hsz1 y (by simp)
    obtain ⟨g1, rfl, hg1, cy⟩ := hW1.at8 (k := 1) (u := .string y) rfl
    obtain ⟨g1', e9, hg1', cx⟩ := hW1.at8 (k := 0) (u := .string x) rfl
    obtain rfl : g1 = g1' := by cases e9; rfl
    have HA := hide ha
    clear ha hws1 hn1 hsz1
    go_wp2_with fail
    clear cy
    refine (l01Split_any w1 y 58 (by omega)).mono ?_
    rintro e w2 ⟨v2, ws2, rfl, hW2, hws2, hsz2, hb2⟩
    have k2 := k1.trans (hb2.mono k1.size)
    have b2 := b1.all hb2
    have hz2 := hb2.size
    have cx2 := (hb2.cell (p := ⟨g1, 0, none⟩) hg1).trans cx
    have hg12 : g1 < w2.heap.size := by omega
    obtain ⟨A2, c2, rfl⟩ : ∃ A c, v2 = .slice A ws2.length c := by
      rcases hW2.form with ⟨rfl, h⟩ | ⟨g, cap, rfl, _⟩
      · have : ws2 = [] := by simpa using h
        rw [this]; exact ⟨none, 0, rfl⟩
      · exact ⟨some ⟨g, 0, none⟩, cap, by rw [List.length_map]⟩
    obtain ⟨n2, hn2⟩ : ∃ n, ws2.length = n := ⟨_, rfl⟩
    rw [hn2] at hW2 ⊢
    clear hb2 b1 k1 cx hW1 hg1 hg1'
    by_cases h3 : n2 = 2
    · subst h3
      obtain ⟨d, g, rfl, hc⟩ := two_of hws2 hn2
      have hgs := hsz2 g (by simp)
      have hds := hsz2 d (by simp)
      obtain ⟨g2, rfl, hg2, ce⟩ := hW2.at8 (k := 1) (u := .string g) rfl
      obtain ⟨g2', e9', hg2', cd⟩ := hW2.at8 (k := 0) (u := .string d) rfl
      obtain rfl : g2 = g2' := by cases e9'; rfl
      have hxs : x.size + 1 ≤ s.size := by
        have := spl_mem 59 s.data.toList x.data.toList (by rw [HA.out]; simp)
        rw [HA.out, ← Lib.size_eq, ← Lib.size_eq] at this
        simp at this; omega
      have hys : y.size + 1 ≤ s.size := by
        have := spl_mem 59 s.data.toList y.data.toList (by rw [HA.out]; simp)
        rw [HA.out, ← Lib.size_eq, ← Lib.size_eq] at this
        simp at this; omega
      have hlx : (lnL x.data.toList).length ≤ s.size := by
        unfold lnL; rw [List.length_map]
        have := spl_len 32 x.data.toList
        rw [← Lib.size_eq] at this; omega
      have hlg : (lnL g.data.toList).length ≤ s.size := by
        unfold lnL; rw [List.length_map]
        have := spl_len 32 g.data.toList
        rw [← Lib.size_eq] at this; omega
      have hpe := pm_eq (rfX_3 HA.out hc)
      rw [bs_mk] at hpe
      have HR := hide hpe
      clear hpe
      have hg1 := hg12
      have cx := cx2
      clear hc hws2 hn2 hsz2 hW2 cx2 hg12 hg2' e9' e9 HA
      go_upto_region 7 with fail
      go_cut [6] (fun s6 wx => ∃ G A1 c1 A3 c3, ∃ F1 F3 : Nat → Prop, s6 = .pointer (some ⟨G, 0, none⟩) ∧ Blk wx G 24 #[.slice A1 (lnL x.data.toList).length c1, .int .i64 (lv d), .slice A3 (lnL g.data.toList).length c3] ∧ E1 wx (.slice A1 (lnL x.data.toList).length c1) (lnL x.data.toList) F1 ∧ E1 wx (.slice A3 (lnL g.data.toList).length c3) (lnL g.data.toList) F3 ∧ (∀ b, F1 b → F3 b → False) ∧ (∀ b, F1 b → w2.heap.size ≤ b ∧ b ≠ G) ∧ (∀ b, F3 b → w2.heap.size ≤ b ∧ b ≠ G) ∧ w2.heap.size ≤ G ∧ Below w2.heap.size w2 wx)
      case first =>
        refine wp_region_bt (.one 0 (.one 1 (.one 2 (.one 4 (.one 5 (.one 6 (.one 8 (.one 9 (.one 10 (.two 3 (.two 7 (.two 11 (.one 12 (.one 13 (.one 14 .nil))) 13 (.one 11 (.one 12 (.one 14 .nil)))) 13 (.one 7 (.one 11 (.one 12 (.one 14 .nil))))) 13 (.one 3 (.one 7 (.one 11 (.one 12 (.one 14 .nil))))))))))))))) 14 w2.heap.size w2 (by kernel_rfl) (by kernel_rfl) (by kernel_rfl) (fun _ _ _ _ _ h => h) (Below.refl _ _) (fun wd hBe => ?_)
        repeat (first | (apply ot_tk rfl (by rfl) (by rfl) (by rfl); (focus (intro wx hSw; have r0 := (hSw.cell (p := ⟨g1, 0, none⟩) hg1).trans cx; have r1 := (hSw.cell (p := ⟨g2, 0, none⟩) hg2).trans cd; have r2 := (hSw.cell (p := ⟨g2, 1, none⟩) hg2).trans ce; go_simp; (try with_reducible rfl))); (try simp only [Act.put, List.setIfInBounds_toArray, List.set_cons_zero, List.set_cons_succ])) | (apply ot_skip rfl (by rfl) (by rfl) (fun _ => hBe); (try simp only [Act.put, List.setIfInBounds_toArray, List.set_cons_zero, List.set_cons_succ])))
        refine ot_two ?_ ?_
        · skip
          (refine ot_do rfl (by rfl) (by rfl) (fun K hK => ?_); go_simp; refine (l10Numbers_any _ x (by omega)).mono ?_; rintro e wn ⟨v, rfl, e1, hbn⟩; obtain ⟨A1', c1', rfl⟩ := e1.own.val; (try have le1 := bO.lt); (try replace bO := bO.all hbn); (try replace e1 := e1.below hbn); have ze1 := hbn.size; have ye1 := hBe.size; replace hBe := hBe.trans (hbn.mono hBe.size); clear hbn; refine hK.out _ _ (fun _ => hBe) ?_; (try simp only [Act.put, List.setIfInBounds_toArray, List.set_cons_zero, List.set_cons_succ]); clear hK K)
          repeat (first | (apply ot_tk rfl (by rfl) (by rfl) (by rfl); (focus (intro wx hSw; have r0 := (hSw.cell (p := ⟨g1, 0, none⟩) hg1).trans cx; have r1 := (hSw.cell (p := ⟨g2, 0, none⟩) hg2).trans cd; have r2 := (hSw.cell (p := ⟨g2, 1, none⟩) hg2).trans ce; go_simp; (try with_reducible rfl))); (try simp only [Act.put, List.setIfInBounds_toArray, List.set_cons_zero, List.set_cons_succ])) | (apply ot_skip rfl (by rfl) (by rfl) (fun _ => hBe); (try simp only [Act.put, List.setIfInBounds_toArray, List.set_cons_zero, List.set_cons_succ])))
          refine ot_two ?_ ?_
          · skip
            (refine ot_do rfl (by rfl) (by rfl) (fun K hK => ?_); go_simp; refine (l01Value_any _ d (by omega)).mono ?_; rintro e wn ⟨rfl, hbn⟩; (try replace bO := bO.all hbn); (try replace e1 := e1.below hbn); have zV := hbn.size; replace hBe := hBe.trans (hbn.mono hBe.size); clear hbn; refine hK.out _ _ (fun _ => hBe) ?_; (try simp only [Act.put, List.setIfInBounds_toArray, List.set_cons_zero, List.set_cons_succ]); clear hK K)
            repeat (first | (apply ot_tk rfl (by rfl) (by rfl) (by rfl); (focus (intro wx hSw; have r0 := (hSw.cell (p := ⟨g1, 0, none⟩) hg1).trans cx; have r1 := (hSw.cell (p := ⟨g2, 0, none⟩) hg2).trans cd; have r2 := (hSw.cell (p := ⟨g2, 1, none⟩) hg2).trans ce; go_simp; (try with_reducible rfl))); (try simp only [Act.put, List.setIfInBounds_toArray, List.set_cons_zero, List.set_cons_succ])) | (apply ot_skip rfl (by rfl) (by rfl) (fun _ => hBe); (try simp only [Act.put, List.setIfInBounds_toArray, List.set_cons_zero, List.set_cons_succ])))
            refine ot_two ?_ ?_
            · skip
              (refine ot_do rfl (by rfl) (by rfl) (fun K hK => ?_); go_simp; refine (l10Numbers_any _ g (by omega)).mono ?_; rintro e wn ⟨v, rfl, e3, hbn⟩; obtain ⟨A3', c3', rfl⟩ := e3.own.val; (try have le3 := bO.lt); (try replace bO := bO.all hbn); (try replace e1 := e1.below hbn); have ze3 := hbn.size; have ye3 := hBe.size; replace hBe := hBe.trans (hbn.mono hBe.size); clear hbn; refine hK.out _ _ (fun _ => hBe) ?_; (try simp only [Act.put, List.setIfInBounds_toArray, List.set_cons_zero, List.set_cons_succ]); clear hK K)
              repeat (first | (apply ot_tk rfl (by rfl) (by rfl) (by rfl); (focus (intro wx hSw; have r0 := (hSw.cell (p := ⟨g1, 0, none⟩) hg1).trans cx; have r1 := (hSw.cell (p := ⟨g2, 0, none⟩) hg2).trans cd; have r2 := (hSw.cell (p := ⟨g2, 1, none⟩) hg2).trans ce; go_simp; (try with_reducible rfl))); (try simp only [Act.put, List.setIfInBounds_toArray, List.set_cons_zero, List.set_cons_succ])) | (apply ot_skip rfl (by rfl) (by rfl) (fun _ => hBe); (try simp only [Act.put, List.setIfInBounds_toArray, List.set_cons_zero, List.set_cons_succ])))
              (refine ot_do rfl (by rfl) (by rfl) (fun K hK => ?_); go_simp; obtain ⟨wa, G, hg, hwa, hBa, hsub, bO, hgB⟩ := be_alloc hBe 24 #[.slice none 0 0, .int .i64 0, .slice none 0 0]; rw [hwa, hg]; have HG := hide hg; clear hwa hg; (try replace e1 := e1.below hsub); (try replace e3 := e3.below hsub); have zG := hsub.size; clear hBe hsub; have hBe := hBa; clear hBa; refine hK.out _ _ (fun _ => hBe) ?_; (try simp only [Act.put, List.setIfInBounds_toArray, List.set_cons_zero, List.set_cons_succ]); clear hK K)
              repeat (first | (apply ot_tk rfl (by rfl) (by rfl) (by rfl); (focus (intro wx hSw; have r0 := (hSw.cell (p := ⟨g1, 0, none⟩) hg1).trans cx; have r1 := (hSw.cell (p := ⟨g2, 0, none⟩) hg2).trans cd; have r2 := (hSw.cell (p := ⟨g2, 1, none⟩) hg2).trans ce; go_simp; (try with_reducible rfl))); (try simp only [Act.put, List.setIfInBounds_toArray, List.set_cons_zero, List.set_cons_succ])) | (apply ot_skip rfl (by rfl) (by rfl) (fun _ => hBe); (try simp only [Act.put, List.setIfInBounds_toArray, List.set_cons_zero, List.set_cons_succ])))
              have r0 := bO.cell 0
              have r1 := bO.cell 1
              have r2 := bO.cell 2
              have f0 := bO.frozen 0
              have f1 := bO.frozen 1
              have f2 := bO.frozen 2
              have hgl := bO.lt
              have gz := HG.out
              refine ot_do rfl (by rfl) (by rfl) (fun K hK => ?_)
              go_simp
              refine hK.out _ _ (fun h => absurd h (by omega)) ?_
              (try simp only [Act.put, List.setIfInBounds_toArray, List.set_cons_zero, List.set_cons_succ])
              clear hK K
              refine ot_nil ?_
              clear r0 r1 r2 f0 f1 f2
              go_wp2_with fail
              go_meet
              exact ⟨G, A1', c1', A3', c3', _, _, rfl, put3_blk bO, e1.put3 (by omega) _ _ _, e3.put3 (by omega) _ _ _, fun b x y => by omega, fun b x => by omega, fun b x => by omega, hgB, put3_below hBe hgB⟩
            · skip
              (refine ot_do rfl (by rfl) (by rfl) (fun K hK => ?_); go_simp; obtain ⟨wa, G, hg, hwa, hBa, hsub, bO, hgB⟩ := be_alloc hBe 24 #[.slice none 0 0, .int .i64 0, .slice none 0 0]; rw [hwa, hg]; have HG := hide hg; clear hwa hg; (try replace e1 := e1.below hsub); (try replace e3 := e3.below hsub); have zG := hsub.size; clear hBe hsub; have hBe := hBa; clear hBa; refine hK.out _ _ (fun _ => hBe) ?_; (try simp only [Act.put, List.setIfInBounds_toArray, List.set_cons_zero, List.set_cons_succ]); clear hK K)
              repeat (first | (apply ot_tk rfl (by rfl) (by rfl) (by rfl); (focus (intro wx hSw; have r0 := (hSw.cell (p := ⟨g1, 0, none⟩) hg1).trans cx; have r1 := (hSw.cell (p := ⟨g2, 0, none⟩) hg2).trans cd; have r2 := (hSw.cell (p := ⟨g2, 1, none⟩) hg2).trans ce; go_simp; (try with_reducible rfl))); (try simp only [Act.put, List.setIfInBounds_toArray, List.set_cons_zero, List.set_cons_succ])) | (apply ot_skip rfl (by rfl) (by rfl) (fun _ => hBe); (try simp only [Act.put, List.setIfInBounds_toArray, List.set_cons_zero, List.set_cons_succ])))
              (refine ot_do rfl (by rfl) (by rfl) (fun K hK => ?_); go_simp; refine (l10Numbers_any _ g (by omega)).mono ?_; rintro e wn ⟨v, rfl, e3, hbn⟩; obtain ⟨A3', c3', rfl⟩ := e3.own.val; (try have le3 := bO.lt); (try replace bO := bO.all hbn); (try replace e1 := e1.below hbn); have ze3 := hbn.size; have ye3 := hBe.size; replace hBe := hBe.trans (hbn.mono hBe.size); clear hbn; refine hK.out _ _ (fun _ => hBe) ?_; (try simp only [Act.put, List.setIfInBounds_toArray, List.set_cons_zero, List.set_cons_succ]); clear hK K)
              repeat (first | (apply ot_tk rfl (by rfl) (by rfl) (by rfl); (focus (intro wx hSw; have r0 := (hSw.cell (p := ⟨g1, 0, none⟩) hg1).trans cx; have r1 := (hSw.cell (p := ⟨g2, 0, none⟩) hg2).trans cd; have r2 := (hSw.cell (p := ⟨g2, 1, none⟩) hg2).trans ce; go_simp; (try with_reducible rfl))); (try simp only [Act.put, List.setIfInBounds_toArray, List.set_cons_zero, List.set_cons_succ])) | (apply ot_skip rfl (by rfl) (by rfl) (fun _ => hBe); (try simp only [Act.put, List.setIfInBounds_toArray, List.set_cons_zero, List.set_cons_succ])))
              have r0 := bO.cell 0
              have r1 := bO.cell 1
              have r2 := bO.cell 2
              have f0 := bO.frozen 0
              have f1 := bO.frozen 1
              have f2 := bO.frozen 2
              have hgl := bO.lt
              have gz := HG.out
              refine ot_do rfl (by rfl) (by rfl) (fun K hK => ?_)
              go_simp
              refine hK.out _ _ (fun h => absurd h (by omega)) ?_
              (try simp only [Act.put, List.setIfInBounds_toArray, List.set_cons_zero, List.set_cons_succ])
              clear hK K
              refine ot_nil ?_
              clear r0 r1 r2 f0 f1 f2
              go_wp2_with fail
              go_meet
              exact ⟨G, A1', c1', A3', c3', _, _, rfl, put3_blk bO, e1.put3 (by omega) _ _ _, e3.put3 (by omega) _ _ _, fun b x y => by omega, fun b x => by omega, fun b x => by omega, hgB, put3_below hBe hgB⟩
          · skip
            (refine ot_do rfl (by rfl) (by rfl) (fun K hK => ?_); go_simp; obtain ⟨wa, G, hg, hwa, hBa, hsub, bO, hgB⟩ := be_alloc hBe 24 #[.slice none 0 0, .int .i64 0, .slice none 0 0]; rw [hwa, hg]; have HG := hide hg; clear hwa hg; (try replace e1 := e1.below hsub); (try replace e3 := e3.below hsub); have zG := hsub.size; clear hBe hsub; have hBe := hBa; clear hBa; refine hK.out _ _ (fun _ => hBe) ?_; (try simp only [Act.put, List.setIfInBounds_toArray, List.set_cons_zero, List.set_cons_succ]); clear hK K)
            repeat (first | (apply ot_tk rfl (by rfl) (by rfl) (by rfl); (focus (intro wx hSw; have r0 := (hSw.cell (p := ⟨g1, 0, none⟩) hg1).trans cx; have r1 := (hSw.cell (p := ⟨g2, 0, none⟩) hg2).trans cd; have r2 := (hSw.cell (p := ⟨g2, 1, none⟩) hg2).trans ce; go_simp; (try with_reducible rfl))); (try simp only [Act.put, List.setIfInBounds_toArray, List.set_cons_zero, List.set_cons_succ])) | (apply ot_skip rfl (by rfl) (by rfl) (fun _ => hBe); (try simp only [Act.put, List.setIfInBounds_toArray, List.set_cons_zero, List.set_cons_succ])))
            (refine ot_do rfl (by rfl) (by rfl) (fun K hK => ?_); go_simp; refine (l01Value_any _ d (by omega)).mono ?_; rintro e wn ⟨rfl, hbn⟩; (try replace bO := bO.all hbn); (try replace e1 := e1.below hbn); have zV := hbn.size; replace hBe := hBe.trans (hbn.mono hBe.size); clear hbn; refine hK.out _ _ (fun _ => hBe) ?_; (try simp only [Act.put, List.setIfInBounds_toArray, List.set_cons_zero, List.set_cons_succ]); clear hK K)
            repeat (first | (apply ot_tk rfl (by rfl) (by rfl) (by rfl); (focus (intro wx hSw; have r0 := (hSw.cell (p := ⟨g1, 0, none⟩) hg1).trans cx; have r1 := (hSw.cell (p := ⟨g2, 0, none⟩) hg2).trans cd; have r2 := (hSw.cell (p := ⟨g2, 1, none⟩) hg2).trans ce; go_simp; (try with_reducible rfl))); (try simp only [Act.put, List.setIfInBounds_toArray, List.set_cons_zero, List.set_cons_succ])) | (apply ot_skip rfl (by rfl) (by rfl) (fun _ => hBe); (try simp only [Act.put, List.setIfInBounds_toArray, List.set_cons_zero, List.set_cons_succ])))
            (refine ot_do rfl (by rfl) (by rfl) (fun K hK => ?_); go_simp; refine (l10Numbers_any _ g (by omega)).mono ?_; rintro e wn ⟨v, rfl, e3, hbn⟩; obtain ⟨A3', c3', rfl⟩ := e3.own.val; (try have le3 := bO.lt); (try replace bO := bO.all hbn); (try replace e1 := e1.below hbn); have ze3 := hbn.size; have ye3 := hBe.size; replace hBe := hBe.trans (hbn.mono hBe.size); clear hbn; refine hK.out _ _ (fun _ => hBe) ?_; (try simp only [Act.put, List.setIfInBounds_toArray, List.set_cons_zero, List.set_cons_succ]); clear hK K)
            repeat (first | (apply ot_tk rfl (by rfl) (by rfl) (by rfl); (focus (intro wx hSw; have r0 := (hSw.cell (p := ⟨g1, 0, none⟩) hg1).trans cx; have r1 := (hSw.cell (p := ⟨g2, 0, none⟩) hg2).trans cd; have r2 := (hSw.cell (p := ⟨g2, 1, none⟩) hg2).trans ce; go_simp; (try with_reducible rfl))); (try simp only [Act.put, List.setIfInBounds_toArray, List.set_cons_zero, List.set_cons_succ])) | (apply ot_skip rfl (by rfl) (by rfl) (fun _ => hBe); (try simp only [Act.put, List.setIfInBounds_toArray, List.set_cons_zero, List.set_cons_succ])))
            have r0 := bO.cell 0
            have r1 := bO.cell 1
            have r2 := bO.cell 2
            have f0 := bO.frozen 0
            have f1 := bO.frozen 1
            have f2 := bO.frozen 2
            have hgl := bO.lt
            have gz := HG.out
            refine ot_do rfl (by rfl) (by rfl) (fun K hK => ?_)
            go_simp
            refine hK.out _ _ (fun h => absurd h (by omega)) ?_
            (try simp only [Act.put, List.setIfInBounds_toArray, List.set_cons_zero, List.set_cons_succ])
            clear hK K
            refine ot_nil ?_
            clear r0 r1 r2 f0 f1 f2
            go_wp2_with fail
            go_meet
            exact ⟨G, A1', c1', A3', c3', _, _, rfl, put3_blk bO, e1.put3 (by omega) _ _ _, e3.put3 (by omega) _ _ _, fun b x y => by omega, fun b x => by omega, fun b x => by omega, hgB, put3_below hBe hgB⟩
        · skip
          (refine ot_do rfl (by rfl) (by rfl) (fun K hK => ?_); go_simp; obtain ⟨wa, G, hg, hwa, hBa, hsub, bO, hgB⟩ := be_alloc hBe 24 #[.slice none 0 0, .int .i64 0, .slice none 0 0]; rw [hwa, hg]; have HG := hide hg; clear hwa hg; (try replace e1 := e1.below hsub); (try replace e3 := e3.below hsub); have zG := hsub.size; clear hBe hsub; have hBe := hBa; clear hBa; refine hK.out _ _ (fun _ => hBe) ?_; (try simp only [Act.put, List.setIfInBounds_toArray, List.set_cons_zero, List.set_cons_succ]); clear hK K)
          repeat (first | (apply ot_tk rfl (by rfl) (by rfl) (by rfl); (focus (intro wx hSw; have r0 := (hSw.cell (p := ⟨g1, 0, none⟩) hg1).trans cx; have r1 := (hSw.cell (p := ⟨g2, 0, none⟩) hg2).trans cd; have r2 := (hSw.cell (p := ⟨g2, 1, none⟩) hg2).trans ce; go_simp; (try with_reducible rfl))); (try simp only [Act.put, List.setIfInBounds_toArray, List.set_cons_zero, List.set_cons_succ])) | (apply ot_skip rfl (by rfl) (by rfl) (fun _ => hBe); (try simp only [Act.put, List.setIfInBounds_toArray, List.set_cons_zero, List.set_cons_succ])))
          (refine ot_do rfl (by rfl) (by rfl) (fun K hK => ?_); go_simp; refine (l10Numbers_any _ x (by omega)).mono ?_; rintro e wn ⟨v, rfl, e1, hbn⟩; obtain ⟨A1', c1', rfl⟩ := e1.own.val; (try have le1 := bO.lt); (try replace bO := bO.all hbn); (try replace e1 := e1.below hbn); have ze1 := hbn.size; have ye1 := hBe.size; replace hBe := hBe.trans (hbn.mono hBe.size); clear hbn; refine hK.out _ _ (fun _ => hBe) ?_; (try simp only [Act.put, List.setIfInBounds_toArray, List.set_cons_zero, List.set_cons_succ]); clear hK K)
          repeat (first | (apply ot_tk rfl (by rfl) (by rfl) (by rfl); (focus (intro wx hSw; have r0 := (hSw.cell (p := ⟨g1, 0, none⟩) hg1).trans cx; have r1 := (hSw.cell (p := ⟨g2, 0, none⟩) hg2).trans cd; have r2 := (hSw.cell (p := ⟨g2, 1, none⟩) hg2).trans ce; go_simp; (try with_reducible rfl))); (try simp only [Act.put, List.setIfInBounds_toArray, List.set_cons_zero, List.set_cons_succ])) | (apply ot_skip rfl (by rfl) (by rfl) (fun _ => hBe); (try simp only [Act.put, List.setIfInBounds_toArray, List.set_cons_zero, List.set_cons_succ])))
          (refine ot_do rfl (by rfl) (by rfl) (fun K hK => ?_); go_simp; refine (l01Value_any _ d (by omega)).mono ?_; rintro e wn ⟨rfl, hbn⟩; (try replace bO := bO.all hbn); (try replace e1 := e1.below hbn); have zV := hbn.size; replace hBe := hBe.trans (hbn.mono hBe.size); clear hbn; refine hK.out _ _ (fun _ => hBe) ?_; (try simp only [Act.put, List.setIfInBounds_toArray, List.set_cons_zero, List.set_cons_succ]); clear hK K)
          repeat (first | (apply ot_tk rfl (by rfl) (by rfl) (by rfl); (focus (intro wx hSw; have r0 := (hSw.cell (p := ⟨g1, 0, none⟩) hg1).trans cx; have r1 := (hSw.cell (p := ⟨g2, 0, none⟩) hg2).trans cd; have r2 := (hSw.cell (p := ⟨g2, 1, none⟩) hg2).trans ce; go_simp; (try with_reducible rfl))); (try simp only [Act.put, List.setIfInBounds_toArray, List.set_cons_zero, List.set_cons_succ])) | (apply ot_skip rfl (by rfl) (by rfl) (fun _ => hBe); (try simp only [Act.put, List.setIfInBounds_toArray, List.set_cons_zero, List.set_cons_succ])))
          (refine ot_do rfl (by rfl) (by rfl) (fun K hK => ?_); go_simp; refine (l10Numbers_any _ g (by omega)).mono ?_; rintro e wn ⟨v, rfl, e3, hbn⟩; obtain ⟨A3', c3', rfl⟩ := e3.own.val; (try have le3 := bO.lt); (try replace bO := bO.all hbn); (try replace e1 := e1.below hbn); have ze3 := hbn.size; have ye3 := hBe.size; replace hBe := hBe.trans (hbn.mono hBe.size); clear hbn; refine hK.out _ _ (fun _ => hBe) ?_; (try simp only [Act.put, List.setIfInBounds_toArray, List.set_cons_zero, List.set_cons_succ]); clear hK K)
          repeat (first | (apply ot_tk rfl (by rfl) (by rfl) (by rfl); (focus (intro wx hSw; have r0 := (hSw.cell (p := ⟨g1, 0, none⟩) hg1).trans cx; have r1 := (hSw.cell (p := ⟨g2, 0, none⟩) hg2).trans cd; have r2 := (hSw.cell (p := ⟨g2, 1, none⟩) hg2).trans ce; go_simp; (try with_reducible rfl))); (try simp only [Act.put, List.setIfInBounds_toArray, List.set_cons_zero, List.set_cons_succ])) | (apply ot_skip rfl (by rfl) (by rfl) (fun _ => hBe); (try simp only [Act.put, List.setIfInBounds_toArray, List.set_cons_zero, List.set_cons_succ])))
          have r0 := bO.cell 0
          have r1 := bO.cell 1
          have r2 := bO.cell 2
          have f0 := bO.frozen 0
          have f1 := bO.frozen 1
          have f2 := bO.frozen 2
          have hgl := bO.lt
          have gz := HG.out
          refine ot_do rfl (by rfl) (by rfl) (fun K hK => ?_)
          go_simp
          refine hK.out _ _ (fun h => absurd h (by omega)) ?_
          (try simp only [Act.put, List.setIfInBounds_toArray, List.set_cons_zero, List.set_cons_succ])
          clear hK K
          refine ot_nil ?_
          clear r0 r1 r2 f0 f1 f2
          go_wp2_with fail
          go_meet
          exact ⟨G, A1', c1', A3', c3', _, _, rfl, put3_blk bO, e1.put3 (by omega) _ _ _, e3.put3 (by omega) _ _ _, fun b x y => by omega, fun b x => by omega, fun b x => by omega, hgB, put3_below hBe hgB⟩
      case rest =>
        obtain ⟨G, A1', c1', A3', c3', F1, F3, rfl, bM, e1, e3, f13, f1, f3, hG, hBe⟩ := hcut
        have hDi := lv_ok d
        obtain ⟨os, hos⟩ : ∃ l, lnL x.data.toList = l := ⟨_, rfl⟩
        obtain ⟨vs, hvs⟩ : ∃ l, lnL g.data.toList = l := ⟨_, rfl⟩
        obtain ⟨D, hD⟩ : ∃ l, lv d = l := ⟨_, rfl⟩
        rw [hos] at HR bM e1 hlx
        rw [hvs] at HR bM e3 hlg
        rw [hD] at HR bM hDi
        clear hos hvs hD cx cd ce
        have hz3 := hBe.size
        have k3 := k2.trans (hBe.mono k2.size)
        have b3 := b2.all hBe
        have hgW : w.heap.size < G := by omega
        clear hBe b2 k2
        have p0 := bM.cell 0
        have p1 := bM.cell 1
        have p2 := bM.cell 2
        have s1 : Sl wc wc.heap.size A1' os.length c1' os := by obtain ⟨A, c, e, h⟩ := e1.sl; cases e; exact h
        have s3 : Sl wc wc.heap.size A3' vs.length c3' vs := by obtain ⟨A, c, e, h⟩ := e3.sl; cases e; exact h
        cases hm : isM os D vs with
        | false =>
          have hno := HR.out.2 fun hx => by have e2 := hx.1; rw [hm] at e2; cases e2
          have HN1 := hide hno.1
          have HN2 := hide hno.2
          have hI2 := hide (l10Is_v false wc A1' os.length c1' os D A3' vs.length c3' vs s1 s3 (by omega) (by omega) hm)
          clear hno HR s1 s3 hm
          go_wp2_with fail
          clear p0 p1 p2
          refine hI2.out.mono ?_
          rintro e wi ⟨rfl, hbi⟩
          have hres := b3.all hbi
          have r0 := hres.cell 0
          have r1 := hres.cell 1
          have r2 := hres.cell 2
          have f0 := hres.frozen 0
          have f1 := hres.frozen 1
          have f2 := hres.frozen 2
          go_wp2_with fail
          have hb3 := put3_blk (x := .slice none 0 0) (y := .int .i64 0) (z := .slice none 0 0) hres
          have q0 := hb3.cell 0
          have q1 := hb3.cell 1
          have q2 := hb3.cell 2
          unfold put3 at q0 q1 q2
          refine bodyPost_ret (v := .tuple #[.agg #[.slice none 0 0, .int .i64 0, .slice none 0 0], .int .i64 6]) (by simp [results, Tryz.results4, go_sem, q0, q1, q2]) rfl ?_
          exact ⟨_, by rw [HN2.out], by rw [HN1.out]; exact metric_none _ _ (fun b hb => hb.2), put3_below (k3.trans (hbi.mono k3.size)) (Nat.le_refl _)⟩
        | true =>
          have hI2 := hide (l10Is_v true wc A1' os.length c1' os D A3' vs.length c3' vs s1 s3 (by omega) (by omega) hm)
          have HM := hide hm
          clear hm
          go_wp2_with fail
          clear p0 p1 p2
          refine hI2.out.mono ?_
          rintro e wi ⟨rfl, hbi⟩
          have hres := b3.all hbi
          have bMi := bM.all hbi
          have p0 := bMi.cell 0
          have p1 := bMi.cell 1
          have p2 := bMi.cell 2
          have ki := k3.trans (hbi.mono k3.size)
          have ei := e1.below hbi
          have gi' := e3.below hbi
          have s1i := (s1.below hbi).more hbi.size
          have s3i := (s3.below hbi).more hbi.size
          clear hI2 s1 s3 b3 bM
          have hM := (isM_iff.1 HM.out).ok
          have d1 := hM.d1
          have d2 := hM.d2
          have hD : i64ok D := ⟨by omega, by omega⟩
          have o1 : ∀ x ∈ os, i64ok x := fun x hx => by have := hM.g.m2 x hx; have := hM.g.m16 x hx; exact ⟨by omega, by omega⟩
          have o2 : ∀ x ∈ os, 0 ≤ x := fun x hx => by have := hM.g.m2 x hx; omega
          have q1 : ∀ x ∈ vs, i64ok x := fun x hx => by have := hM.rng x hx; exact ⟨by omega, by omega⟩
          have q2 : ∀ x ∈ vs, 0 ≤ x := fun x hx => (hM.rng x hx).1
          have HMT := hide (l10Text_any wi A1' os.length c1' os D A3' vs.length c3' vs s1i s3i o1 q1 hD o2 q2 (by omega) (by omega) (by omega))
          have hzi := hbi.size
          have HE := hide (show metric_E wi (.agg #[.slice A1' os.length c1', .int .i64 D, .slice A3' vs.length c3']) (os, D, vs) (fun b => w.heap.size < b ∧ b < wi.heap.size) from
            ⟨hD, _, _, _, _, rfl, ei, gi', f13, fun b h => ⟨by have := f1 b h; omega, ei.bd b h⟩, fun b h => ⟨by have := f3 b h; omega, gi'.bd b h⟩, fun b h => h.2⟩)
          clear hM d1 d2 hD o1 o2 q1 q2 s1i s3i ei gi' e1 e3
          obtain ⟨T, hT2⟩ : ∃ T, metText os D vs = T := ⟨_, rfl⟩
          rw [hT2] at HMT
          have HT2 := hide hT2
          clear hT2
          by_cases hTs : T = s
          · subst hTs
            have hy := HR.out.1 ⟨HM.out, HT2.out⟩
            have HN1 := hide hy.1
            have HN2 := hide hy.2
            clear hy HR
            go_wp2_with fail
            refine HMT.out.mono ?_
            rintro e wj ⟨rfl, hbj⟩
            have hresj := hres.all hbj
            have bMj := bMi.all hbj
            have Ej := metric_below HE.out hbj
            have kj := ki.trans (hbj.mono ki.size)
            have p0 := bMj.cell 0
            have p1 := bMj.cell 1
            have p2 := bMj.cell 2
            have r0 := hresj.cell 0
            have r1 := hresj.cell 1
            have r2 := hresj.cell 2
            have f0 := hresj.frozen 0
            have f1 := hresj.frozen 1
            have f2 := hresj.frozen 2
            go_wp2_with fail
            have hb3 := put3_blk (x := .slice A1' os.length c1') (y := .int .i64 D) (z := .slice A3' vs.length c3') hresj
            have q0 := hb3.cell 0
            have q1 := hb3.cell 1
            have q2 := hb3.cell 2
            unfold put3 at q0 q1 q2
            refine bodyPost_ret (v := .tuple #[.agg #[.slice A1' os.length c1', .int .i64 D, .slice A3' vs.length c3'], .int .i64 0]) (by simp [results, Tryz.results4, go_sem, q0, q1, q2]) rfl ?_
            exact ⟨_, by rw [HN2.out], by rw [HN1.out]; exact metric_mono (metric_put3 Ej (by omega) _ _ _) (fun b hb => ⟨by omega, Nat.lt_of_lt_of_le hb.2 (Nat.le_trans hbj.size (by rw [← put3_size (w := wj)]; exact Nat.le_refl _))⟩) (fun b hb => hb.2), put3_below kj (Nat.le_refl _)⟩
          · have hne : (T.toList == s.toList) = false := by
              rw [beq_eq_false_iff_ne]
              intro e
              rw [ByteArray.toList_eq, ByteArray.toList_eq] at e
              exact hTs (bs_eq e)
            have hno := HR.out.2 fun hx => hTs (HT2.out.symm.trans hx.2)
            have HN1 := hide hno.1
            have HN2 := hide hno.2
            clear hno HR hTs HE
            go_wp2_with fail
            refine HMT.out.mono ?_
            rintro e wj ⟨rfl, hbj⟩
            have hresj := hres.all hbj
            have r0 := hresj.cell 0
            have r1 := hresj.cell 1
            have r2 := hresj.cell 2
            have f0 := hresj.frozen 0
            have f1 := hresj.frozen 1
            have f2 := hresj.frozen 2
            go_wp2_with fail
            have hb3 := put3_blk (x := .slice none 0 0) (y := .int .i64 0) (z := .slice none 0 0) hresj
            have q0 := hb3.cell 0
            have q1 := hb3.cell 1
            have q2 := hb3.cell 2
            unfold put3 at q0 q1 q2
            refine bodyPost_ret (v := .tuple #[.agg #[.slice none 0 0, .int .i64 0, .slice none 0 0], .int .i64 6]) (by simp [results, Tryz.results4, go_sem, q0, q1, q2]) rfl ?_
            exact ⟨_, by rw [HN2.out], by rw [HN1.out]; exact metric_none _ _ (fun b hb => hb.2), put3_below (ki.trans (hbj.mono ki.size)) (Nat.le_refl _)⟩
    · have hne : ((n2 : Int) != 2) = true := by rw [bne_iff_ne]; omega
      have hno := pm_none (rfX_2 (s := s) HA.out (by rw [← hws2, List.length_map]; omega))
      have HN1 := hide hno.1
      have HN2 := hide hno.2
      have hres := b2
      have r0 := hres.cell 0
      have r1 := hres.cell 1
      have r2 := hres.cell 2
      have f0 := hres.frozen 0
      have f1 := hres.frozen 1
      have f2 := hres.frozen 2
      clear hno hws2
      go_wp2_with fail
      have hb3 := put3_blk (x := .slice none 0 0) (y := .int .i64 0) (z := .slice none 0 0) hres
      have q0 := hb3.cell 0
      have q1 := hb3.cell 1
      have q2 := hb3.cell 2
      unfold put3 at q0 q1 q2
      refine bodyPost_ret (v := .tuple #[.agg #[.slice none 0 0, .int .i64 0, .slice none 0 0], .int .i64 6]) (by simp [results, Tryz.results4, go_sem, q0, q1, q2]) rfl ?_
      exact ⟨_, by rw [HN2.out], by rw [HN1.out]; exact metric_none _ _ (fun b hb => hb.2), put3_below k2 (Nat.le_refl _)⟩
  · have hne : ((n1 : Int) != 2) = true := by rw [bne_iff_ne]; omega
    have hno := pm_none (rfX_1 (s := s) (by rw [← hws1, List.length_map]; omega))
    have HN1 := hide hno.1
    have HN2 := hide hno.2
    have hres := b1
    have r0 := hres.cell 0
    have r1 := hres.cell 1
    have r2 := hres.cell 2
    have f0 := hres.frozen 0
    have f1 := hres.frozen 1
    have f2 := hres.frozen 2
    clear hno hws1
    go_wp2_with fail
    have hb3 := put3_blk (x := .slice none 0 0) (y := .int .i64 0) (z := .slice none 0 0) hres
    have q0 := hb3.cell 0
    have q1 := hb3.cell 1
    have q2 := hb3.cell 2
    unfold put3 at q0 q1 q2
    refine bodyPost_ret (v := .tuple #[.agg #[.slice none 0 0, .int .i64 0, .slice none 0 0], .int .i64 6]) (by simp [results, Tryz.results4, go_sem, q0, q1, q2]) rfl ?_
    exact ⟨_, by rw [HN2.out], by rw [HN1.out]; exact metric_none _ _ (fun b hb => hb.2), put3_below k1 (Nat.le_refl _)⟩
end Go.Proofs.YtkhkejdkakmiiaaGreatDoor
