
/- The masks of all subgroups, as the program makes them: subgroupMasks walked. -/
import Derived.Test.YtbpihnpakolooaaGreatDoorMW2
import Derived.Deep.DeepCutAuto
namespace Go.Proofs.YtbpihnpakolooaaGreatDoor
open Go Go.RowKit Grp
set_option linter.unusedSimpArgs false
set_option linter.unusedVariables false
/-- The masks of all subgroups, as numbers. -/
noncomputable def sgK (os : List Int) (N : Nat) : List Int := (allK os N).map fun (m : Nat) => (m : Int)
/-- Masks found, as numbers. -/
def fI (F : List Nat) : List Int := F.map fun (m : Nat) => (m : Int)
theorem fI_len (F : List Nat) : (fI F).length = F.length := by simp [fI]
theorem fI_gi {F : List Nat} {k : Nat} (h : k < F.length) : ∃ f, F[k]? = some f ∧ gi (fI F) k = (f : Int) := by
  refine ⟨F[k], List.getElem?_eq_getElem h, ?_⟩
  unfold gi fI
  rw [List.getD_eq_getElem?_getD, List.getElem?_map, List.getElem?_eq_getElem h]; rfl
theorem fI_mem {F : List Nat} {m : Nat} : (m : Int) ∈ fI F ↔ m ∈ F := by
  unfold fI
  simp only [List.mem_map]
  exact ⟨fun ⟨x, hx, e⟩ => by have : x = m := by omega
                              rwa [← this], fun h => ⟨m, h, rfl⟩⟩
theorem fI_app (F : List Nat) (m : Nat) : fI (F ++ [m]) = fI F ++ [(m : Int)] := by simp [fI]
theorem wp_pushM {o : Oper} {a : Act} {K : Act → World → Prop} {Q : Exit → Act → World → Prop} (w : World) (s x : Operand)
    (ho : o.op = .call { callee := .builtin .append, args := #[s, x], argTypes := #[24, 24] })
    (B : Nat) (v : Value) (xs : List Int) (hs : a.eval s = v) (hown : Ow w B v xs) (y : Int) (H T N : Nat) (hx : a.eval x = .slice (some ⟨H, 0, none⟩) 1 1) (hb : Blk w H T #[.int .i64 y])
    (hn : xs.length ≤ 1048576) (hB : B ≤ w.heap.size) (hH : w.heap.size = N + 1)
    (h : ∀ g cap w', Pushed w B v xs y N g cap w' → K (a.put o.dst (.slice (some ⟨g, 0, none⟩) (xs.length + 1) cap)) w') : o.wp Tryz.prog a w K Q := by
  obtain ⟨i0, hi0, hz0, hz1, hz2⟩ := info_parts int_info
  refine wp_append_lies w s x _ ho B 2 i0 _ 1 8 Tryz.underlying24 hi0 hz0 hz1 hz2 rfl (by omega) v xs.length _ hs hown ⟨H, 0, none⟩ 1 1 [.int .i64 y] hx rfl
    (World.news_of_block (cs := #[.int .i64 y]) hb) (by simp [Value.oneCell']) (by omega) (by unfold maxLen; omega) (by omega) hB (N + 1) hH ?_
  intro g cap w' h2 h3 h4 h5
  refine h g cap w' ⟨?_, h3, h4, h5⟩
  unfold Ow
  simpa using h2
set_option maxHeartbeats 4000000 in
theorem subgroupMasks_any (w : World) (A : Option Addr) (n c : Nat) (os : List Int) (D : Int) (A' : Option Addr) (c' : Nat) (N : Nat)
    (h : Sl w w.heap.size A n c os) (hG : OkG os) (hN : prodL os = N) (hT : Tb w) :
    Calls Tryz.prog 87 #[.agg #[.slice A n c, .int .i64 D, .slice A' N c']] w (Mk w (sgK os N)) := by
  have hge := hG.ge
  have h16 := hG.p16
  have N0 : 0 < N := by omega
  have N16 : N ≤ 16 := by omega
  have HN := hide hN
  have HS0 := hide (Fd.start (N := N) hG hN.symm)
  have HP := hide (show (2 : Nat) ^ N ≤ 65536 from Nat.le_trans (Nat.pow_le_pow_right (by omega) N16) (by decide))
  have HNX := hide (fun m x (hx : x < N) => nxt_isK hG hN.symm (m := m) hx)
  have HML := hide (fun m x (hx : x < N) => ml_rng hG hN.symm (m := m) hx)
  have HML2 := hide (fun m => mems_len N m)
  have HGR := hide (show ∀ l, (∀ y ∈ genL (Ar os) l N, 0 ≤ y ∧ y < N) from fun l y hy => by have := mem_genL.1 hy; exact ⟨this.2.1, this.2.2⟩)
  obtain ⟨P, hP⟩ : ∃ P : Nat, 2 ^ N = P := ⟨_, rfl⟩
  have hP6 : P ≤ 65536 := by rw [← hP]; exact HP.out
  have HPE := hide hP
  clear hN hge h16 hP
  go_enter Tryz.func87, Tryz.ntmps87
  go_wp2_with fail
  obtain ⟨W, hW⟩ : ∃ W, w.alloc (.cells #[.slice A n c, .int .i64 D, .slice A' N c'] 26) = W := ⟨_, rfl⟩
  have hbW : Below w.heap.size w W := by rw [← hW]; exact (by repeat (first | assumption | exact Below.refl _ _ | apply below_drewN | apply Below.drew | apply Below.alloc | apply Below.setCell | omega | (focus (simp; done)) | (focus (simp; omega))))
  have hszW : w.heap.size < W.heap.size := by rw [← hW]; simp
  have hsW := hide (show W.heap.size = w.heap.size + 1 by rw [← hW]; simp)
  have bM : Blk W w.heap.size 26 #[.slice A n c, .int .i64 D, .slice A' N c'] := by rw [← hW]; exact Blk.new _ _ _
  have q0 : W.cell? ⟨w.heap.size, 0, none⟩ = some (.slice A n c) := by rw [← hW]; exact (Blk.new _ _ _).cell 0
  have q1 : W.cell? ⟨w.heap.size, 1, none⟩ = some (.int .i64 D) := by rw [← hW]; exact (Blk.new _ _ _).cell 1
  have q2 : W.cell? ⟨w.heap.size, 2, none⟩ = some (.slice A' N c') := by rw [← hW]; exact (Blk.new _ _ _).cell 2
  rw [hW]
  clear hW
  have hsl : ∀ wd, Below W.heap.size W wd → Sl wd wd.heap.size A n c os := fun wd h9 => ((h.below hbW).more (Nat.le_of_lt hszW)).below h9 |>.more h9.size
  have hTW : ∀ wd, Below W.heap.size W wd → Tb wd := fun wd h9 => (hT.bel hbW).bel h9
  have hB2 : Below W.heap.size W (W.alloc (.cells #[.int .i64 1] 2)) := (Below.refl _ _).alloc (Nat.le_refl _) _
  have hO2 : Ow (W.alloc (.cells #[.int .i64 1] 2)) W.heap.size (.slice (some ⟨w.heap.size + 1, 0, none⟩) 1 1) [1] := Ow.made' (xs := [1]) W #[.int .i64 1] (w.heap.size + 1) 1 hsW.out rfl (by rw [hsW.out]; omega) rfl (by unfold maxLen; omega)
  go_wp2_with fail
  go_loopw [3, 4] (fun o i wr => ∃ (k : Nat) (F : List Nat) (vv : Value), k ≤ F.length ∧ i = .int .i64 k ∧ vv = o ∧ Hid (Fd os N F k 0) ∧ F.length ≤ P ∧ Ow wr W.heap.size vv (fI F) ∧ Below W.heap.size W wr) (fun _ i _ => P - (intOf i).toNat)
  case atStart => exact ⟨0, [1], _, by simp, rfl, rfl, HS0, by have := (HS0.out).len; rw [HPE.out] at this; exact this, hO2, hB2⟩
  case round =>
    clear hO2 hB2 HS0
    obtain ⟨k, F, vv, hk, rfl, rfl, hF, hFl, hO, hBe⟩ := hrel
    have hfl := fI_len F
    obtain ⟨vA, vc, rfl⟩ := hO.val
    rw [hfl] at hO ⊢
    clear hfl
    by_cases hlt : k < F.length
    · have r0 := (hBe.cell (p := ⟨w.heap.size, 0, none⟩) hszW).trans q0
      have r1 := (hBe.cell (p := ⟨w.heap.size, 1, none⟩) hszW).trans q1
      have r2 := (hBe.cell (p := ⟨w.heap.size, 2, none⟩) hszW).trans q2
      go_wp2_with fail
      clear r0 r1 r2
      refine (size_any _ _ _ _ _ _).mono ?_
      rintro e w2 ⟨rfl, hb2⟩
      replace hO := hO.below hb2
      replace hBe := hBe.trans (hb2.mono hBe.size)
      clear hb2
      go_wp2_with fail
      go_loopw [3, 16] (fun o i wr => ∃ (j : Nat) (F : List Nat) (vv : Value), j ≤ N ∧ i = .int .i64 j ∧ vv = o ∧ k < F.length ∧ Hid (Fd os N F k j) ∧ F.length ≤ P ∧ Ow wr W.heap.size vv (fI F) ∧ Below W.heap.size W wr) (fun _ i _ => N - (intOf i).toNat)
      case atStart => exact ⟨0, F, _, by omega, rfl, rfl, hlt, hF, hFl, hO, hBe⟩
      case round =>
        clear hO hBe hF hFl hk hlt
        obtain ⟨j, F, vv, hj, rfl, rfl, hkF, hF, hFl, hO, hBe⟩ := hrel
        have hfl := fI_len F
        by_cases hlj : j < N
        · obtain ⟨f, hf, hgf⟩ := fI_gi hkF
          have hfK := (hF.out.isK f (List.mem_of_getElem? hf)).1
          have hPu := hide (fun hm => hF.out.push hG HN.out.symm hf hlj hm)
          have hMt := hide (fun hm => hF.out.met hf hm)
          rcases hO.form with ⟨_, e2⟩ | ⟨g, cap, rfl, hg, hgl, hcap⟩
          · rw [e2] at hfl; simp at hfl; omega
          have HFL := hide hfl
          rw [hfl] at hO hcap ⊢
          have cg := hO.cell hfl.symm hkF
          rw [hgf] at cg
          have hB0 := hBe
          have hz0 : w.heap.size < wr.heap.size := Nat.lt_of_lt_of_le hszW hB0.size
          have y0 := (hB0.cell (p := ⟨w.heap.size, 0, none⟩) hszW).trans q0
          have y1 := (hB0.cell (p := ⟨w.heap.size, 1, none⟩) hszW).trans q1
          have y2 := (hB0.cell (p := ⟨w.heap.size, 2, none⟩) hszW).trans q2
          have hel := fun W' h' => elementsOf_any W' N f N16 hfK h'
          have hml := HML2.out f
          have hrl := HML.out f j hlj
          have hge := fun W' A n c A' n' c' L l lc h1 h2 h3 => generated_any W' A n c os D A' n' c' L l lc (mems N f ++ [(j : Int)]) N h1 h2 h3 hG HN.out (by rw [HN.out]; exact hrl)
          have hmk := fun W' B A n c h1 h2 => maskOf_any W' B A n c (genL (Ar os) (mems N f ++ [(j : Int)]) N) h1 (fun x hx => by have := HGR.out _ x hx; omega) h2
          have hgl16 := (mems_len 1 1)
          have hnx := (HNX.out f j hlj).1
          have HR6 := hide (show ∀ x ∈ mems N f ++ [(j : Int)], i64ok x from fun x hx => by have := hrl x hx; exact ⟨by omega, by omega⟩)
          have HG6 := hide (show ∀ x ∈ genL (Ar os) (mems N f ++ [(j : Int)]) N, i64ok x from fun x hx => by have := HGR.out _ x hx; exact ⟨by omega, by omega⟩)
          clear hfl hf hgf hrl
          go_upto_region 8 with fail
          go_cut [6] (fun s6 wx => s6 = .int .i64 (nxt os N f j : Nat) ∧ Below wr.heap.size wr wx)
          case first =>
            have hgl := hgl
            have hlenG : (genL (Ar os) (mems N f ++ [(j : Int)]) N).length ≤ 16 := Nat.le_trans (genL_len _ _ _) N16
            refine wp_region_bt (.one 0 (.one 1 (.one 2 (.one 3 (.one 4 (.one 6 (.two 5 (.one 7 (.one 8 (.one 9 (.one 10 (.one 11 .nil))))) 7 (.one 5 (.one 8 (.one 9 (.one 10 (.one 11 .nil)))))))))))) 11 wr.heap.size wr (by kernel_rfl) (by kernel_rfl) (by kernel_rfl) (fun _ _ _ _ _ h => h) (Below.refl _ _) (fun wd hBe => ?_)
            repeat (first | (apply ot_tk rfl (by rfl) (by rfl) (by rfl); (focus (intro wx hSw; have r0 := (hSw.cell (p := ⟨w.heap.size, 0, none⟩) hz0).trans y0; have r1 := (hSw.cell (p := ⟨w.heap.size, 1, none⟩) hz0).trans y1; have r2 := (hSw.cell (p := ⟨w.heap.size, 2, none⟩) hz0).trans y2; have r3 := (hSw.cell (p := ⟨g, k, none⟩) hgl).trans cg; go_simp; (try with_reducible rfl))); (try simp only [Act.put, List.setIfInBounds_toArray, List.set_cons_zero, List.set_cons_succ])) | (apply ot_skip rfl (by rfl) (by rfl) (fun _ => hBe); (try simp only [Act.put, List.setIfInBounds_toArray, List.set_cons_zero, List.set_cons_succ])))
            refine ot_two ?_ ?_
            · skip
              refine ot_do rfl (by rfl) (by rfl) (fun K hK => ?_)
              go_simp
              refine (hel _ (hTW _ (hB0.trans (hBe.mono hB0.size)))).mono ?_
              rintro e w3 ⟨v, rfl, hV, hwd⟩
              have hzz := hBe.size
              have hz3 := hwd.size
              replace hBe := hBe.trans (hwd.mono hBe.size)
              refine hK.out _ _ (fun _ => hBe) ?_
              (try simp only [Act.put, List.setIfInBounds_toArray, List.set_cons_zero, List.set_cons_succ])
              clear hK K
              repeat (first | (apply ot_tk rfl (by rfl) (by rfl) (by rfl); (focus (intro wx hSw; have r0 := (hSw.cell (p := ⟨w.heap.size, 0, none⟩) hz0).trans y0; have r1 := (hSw.cell (p := ⟨w.heap.size, 1, none⟩) hz0).trans y1; have r2 := (hSw.cell (p := ⟨w.heap.size, 2, none⟩) hz0).trans y2; have r3 := (hSw.cell (p := ⟨g, k, none⟩) hgl).trans cg; go_simp; (try with_reducible rfl))); (try simp only [Act.put, List.setIfInBounds_toArray, List.set_cons_zero, List.set_cons_succ])) | (apply ot_skip rfl (by rfl) (by rfl) (fun _ => hBe); (try simp only [Act.put, List.setIfInBounds_toArray, List.set_cons_zero, List.set_cons_succ])))
              refine ot_do rfl (by rfl) (by rfl) (fun K hK => ?_)
              go_simp
              replace hBe := hBe.alloc hBe.size (.cells #[.int .i64 (j : Int)] 2)
              refine hK.out _ _ (fun _ => hBe) ?_
              (try simp only [Act.put, List.setIfInBounds_toArray, List.set_cons_zero, List.set_cons_succ])
              clear hK K
              repeat (first | (apply ot_tk rfl (by rfl) (by rfl) (by rfl); (focus (intro wx hSw; have r0 := (hSw.cell (p := ⟨w.heap.size, 0, none⟩) hz0).trans y0; have r1 := (hSw.cell (p := ⟨w.heap.size, 1, none⟩) hz0).trans y1; have r2 := (hSw.cell (p := ⟨w.heap.size, 2, none⟩) hz0).trans y2; have r3 := (hSw.cell (p := ⟨g, k, none⟩) hgl).trans cg; go_simp; (try with_reducible rfl))); (try simp only [Act.put, List.setIfInBounds_toArray, List.set_cons_zero, List.set_cons_succ])) | (apply ot_skip rfl (by rfl) (by rfl) (fun _ => hBe); (try simp only [Act.put, List.setIfInBounds_toArray, List.set_cons_zero, List.set_cons_succ])))
              refine ot_do rfl (by rfl) (by rfl) (fun K hK => ?_)
              have hJ := hV.alloc (.cells #[.int .i64 (j : Int)] 2)
              refine wp_pushM _ _ _ (by rfl) _ v (mems N f) (by rfl) hJ _ w3.heap.size _ w3.heap.size (by rfl) (Blk.new _ _ _) (by omega) (by simp; omega) (by simp) ?_
              intro g2 cap2 w5 hP
              have hBe := hBe.trans ((hP.below hJ (by first | omega | (focus (simp; done)) | (focus (simp; omega)))).mono (by first | omega | (focus (simp; done)) | (focus (simp; omega))))
              refine hK.out _ _ (fun _ => hBe) ?_
              (try simp only [Act.put, List.setIfInBounds_toArray, List.set_cons_zero, List.set_cons_succ])
              clear hK K
              repeat (first | (apply ot_tk rfl (by rfl) (by rfl) (by rfl); (focus (intro wx hSw; have r0 := (hSw.cell (p := ⟨w.heap.size, 0, none⟩) hz0).trans y0; have r1 := (hSw.cell (p := ⟨w.heap.size, 1, none⟩) hz0).trans y1; have r2 := (hSw.cell (p := ⟨w.heap.size, 2, none⟩) hz0).trans y2; have r3 := (hSw.cell (p := ⟨g, k, none⟩) hgl).trans cg; go_simp; (try with_reducible rfl))); (try simp only [Act.put, List.setIfInBounds_toArray, List.set_cons_zero, List.set_cons_succ])) | (apply ot_skip rfl (by rfl) (by rfl) (fun _ => hBe); (try simp only [Act.put, List.setIfInBounds_toArray, List.set_cons_zero, List.set_cons_succ])))
              refine ot_do rfl (by rfl) (by rfl) (fun K hK => ?_)
              go_simp
              have hLs := hP.own.here (by simp) HR6.out
              refine (hge _ _ _ _ _ _ _ _ _ _ (hsl _ (hB0.trans (hBe.mono hB0.size))) hLs (by omega)).mono ?_
              rintro e w6 ⟨v6, rfl, hV6, hb6⟩
              replace hBe := hBe.trans (hb6.mono hBe.size)
              refine hK.out _ _ (fun _ => hBe) ?_
              (try simp only [Act.put, List.setIfInBounds_toArray, List.set_cons_zero, List.set_cons_succ])
              clear hK K
              obtain ⟨sA, sc, rfl, hS6⟩ := hV6.sl HG6.out
              repeat (first | (apply ot_tk rfl (by rfl) (by rfl) (by rfl); (focus (intro wx hSw; have r0 := (hSw.cell (p := ⟨w.heap.size, 0, none⟩) hz0).trans y0; have r1 := (hSw.cell (p := ⟨w.heap.size, 1, none⟩) hz0).trans y1; have r2 := (hSw.cell (p := ⟨w.heap.size, 2, none⟩) hz0).trans y2; have r3 := (hSw.cell (p := ⟨g, k, none⟩) hgl).trans cg; go_simp; (try with_reducible rfl))); (try simp only [Act.put, List.setIfInBounds_toArray, List.set_cons_zero, List.set_cons_succ])) | (apply ot_skip rfl (by rfl) (by rfl) (fun _ => hBe); (try simp only [Act.put, List.setIfInBounds_toArray, List.set_cons_zero, List.set_cons_succ])))
              refine ot_do rfl (by rfl) (by rfl) (fun K hK => ?_)
              go_simp
              refine (hmk _ _ _ _ _ hS6 (by omega)).mono ?_
              rintro e w7 ⟨rfl, m7, hw7⟩
              have hBe7 : Below wr.heap.size wr w7 := by rw [hw7]; exact below_drewN hBe m7
              clear hw7
              refine hK.out _ _ (fun _ => hBe7) ?_
              (try simp only [Act.put, List.setIfInBounds_toArray, List.set_cons_zero, List.set_cons_succ])
              clear hK K
              repeat (first | (apply ot_tk rfl (by rfl) (by rfl) (by rfl); (focus (intro wx hSw; have r0 := (hSw.cell (p := ⟨w.heap.size, 0, none⟩) hz0).trans y0; have r1 := (hSw.cell (p := ⟨w.heap.size, 1, none⟩) hz0).trans y1; have r2 := (hSw.cell (p := ⟨w.heap.size, 2, none⟩) hz0).trans y2; have r3 := (hSw.cell (p := ⟨g, k, none⟩) hgl).trans cg; go_simp; (try with_reducible rfl))); (try simp only [Act.put, List.setIfInBounds_toArray, List.set_cons_zero, List.set_cons_succ])) | (apply ot_skip rfl (by rfl) (by rfl) (fun _ => hBe); (try simp only [Act.put, List.setIfInBounds_toArray, List.set_cons_zero, List.set_cons_succ])))
              refine ot_do rfl (by rfl) (by rfl) (fun K hK => ?_)
              go_simp
              refine hK.out _ _ (fun h => absurd h (by omega)) ?_
              (try simp only [Act.put, List.setIfInBounds_toArray, List.set_cons_zero, List.set_cons_succ])
              clear hK K
              refine ot_nil ?_
              go_wp2_with fail
              go_meet
              exact ⟨rfl, hBe7⟩
            · skip
              refine ot_do rfl (by rfl) (by rfl) (fun K hK => ?_)
              go_simp
              have bJ := Blk.new wd 2 #[.int .i64 (j : Int)]
              have hzz := hBe.size
              replace hBe := hBe.alloc hBe.size (.cells #[.int .i64 (j : Int)] 2)
              refine hK.out _ _ (fun _ => hBe) ?_
              (try simp only [Act.put, List.setIfInBounds_toArray, List.set_cons_zero, List.set_cons_succ])
              clear hK K
              repeat (first | (apply ot_tk rfl (by rfl) (by rfl) (by rfl); (focus (intro wx hSw; have r0 := (hSw.cell (p := ⟨w.heap.size, 0, none⟩) hz0).trans y0; have r1 := (hSw.cell (p := ⟨w.heap.size, 1, none⟩) hz0).trans y1; have r2 := (hSw.cell (p := ⟨w.heap.size, 2, none⟩) hz0).trans y2; have r3 := (hSw.cell (p := ⟨g, k, none⟩) hgl).trans cg; go_simp; (try with_reducible rfl))); (try simp only [Act.put, List.setIfInBounds_toArray, List.set_cons_zero, List.set_cons_succ])) | (apply ot_skip rfl (by rfl) (by rfl) (fun _ => hBe); (try simp only [Act.put, List.setIfInBounds_toArray, List.set_cons_zero, List.set_cons_succ])))
              refine ot_do rfl (by rfl) (by rfl) (fun K hK => ?_)
              go_simp
              refine (hel _ (hTW _ (hB0.trans (hBe.mono hB0.size)))).mono ?_
              rintro e w3 ⟨v, rfl, hV, hwd⟩
              replace bJ := bJ.all hwd
              have hz3 := hwd.size
              simp at hz3
              replace hBe := hBe.trans (hwd.mono hBe.size)
              refine hK.out _ _ (fun _ => hBe) ?_
              (try simp only [Act.put, List.setIfInBounds_toArray, List.set_cons_zero, List.set_cons_succ])
              clear hK K
              repeat (first | (apply ot_tk rfl (by rfl) (by rfl) (by rfl); (focus (intro wx hSw; have r0 := (hSw.cell (p := ⟨w.heap.size, 0, none⟩) hz0).trans y0; have r1 := (hSw.cell (p := ⟨w.heap.size, 1, none⟩) hz0).trans y1; have r2 := (hSw.cell (p := ⟨w.heap.size, 2, none⟩) hz0).trans y2; have r3 := (hSw.cell (p := ⟨g, k, none⟩) hgl).trans cg; go_simp; (try with_reducible rfl))); (try simp only [Act.put, List.setIfInBounds_toArray, List.set_cons_zero, List.set_cons_succ])) | (apply ot_skip rfl (by rfl) (by rfl) (fun _ => hBe); (try simp only [Act.put, List.setIfInBounds_toArray, List.set_cons_zero, List.set_cons_succ])))
              refine ot_do rfl (by rfl) (by rfl) (fun K hK => ?_)
              have hJ := hV
              obtain ⟨N3, hN3⟩ : ∃ N3, w3.heap.size = N3 + 1 := ⟨w3.heap.size - 1, by omega⟩
              refine wp_pushM _ _ _ (by rfl) _ v (mems N f) (by rfl) hJ _ wd.heap.size _ N3 (by rfl) bJ (by omega) (by simp; omega) hN3 ?_
              intro g2 cap2 w5 hP
              have hBe := hBe.trans ((hP.below hJ (by first | omega | (focus (simp; done)) | (focus (simp; omega)))).mono (by first | omega | (focus (simp; done)) | (focus (simp; omega))))
              refine hK.out _ _ (fun _ => hBe) ?_
              (try simp only [Act.put, List.setIfInBounds_toArray, List.set_cons_zero, List.set_cons_succ])
              clear hK K
              repeat (first | (apply ot_tk rfl (by rfl) (by rfl) (by rfl); (focus (intro wx hSw; have r0 := (hSw.cell (p := ⟨w.heap.size, 0, none⟩) hz0).trans y0; have r1 := (hSw.cell (p := ⟨w.heap.size, 1, none⟩) hz0).trans y1; have r2 := (hSw.cell (p := ⟨w.heap.size, 2, none⟩) hz0).trans y2; have r3 := (hSw.cell (p := ⟨g, k, none⟩) hgl).trans cg; go_simp; (try with_reducible rfl))); (try simp only [Act.put, List.setIfInBounds_toArray, List.set_cons_zero, List.set_cons_succ])) | (apply ot_skip rfl (by rfl) (by rfl) (fun _ => hBe); (try simp only [Act.put, List.setIfInBounds_toArray, List.set_cons_zero, List.set_cons_succ])))
              refine ot_do rfl (by rfl) (by rfl) (fun K hK => ?_)
              go_simp
              have hLs := hP.own.here (by simp) HR6.out
              refine (hge _ _ _ _ _ _ _ _ _ _ (hsl _ (hB0.trans (hBe.mono hB0.size))) hLs (by omega)).mono ?_
              rintro e w6 ⟨v6, rfl, hV6, hb6⟩
              replace hBe := hBe.trans (hb6.mono hBe.size)
              refine hK.out _ _ (fun _ => hBe) ?_
              (try simp only [Act.put, List.setIfInBounds_toArray, List.set_cons_zero, List.set_cons_succ])
              clear hK K
              obtain ⟨sA, sc, rfl, hS6⟩ := hV6.sl HG6.out
              repeat (first | (apply ot_tk rfl (by rfl) (by rfl) (by rfl); (focus (intro wx hSw; have r0 := (hSw.cell (p := ⟨w.heap.size, 0, none⟩) hz0).trans y0; have r1 := (hSw.cell (p := ⟨w.heap.size, 1, none⟩) hz0).trans y1; have r2 := (hSw.cell (p := ⟨w.heap.size, 2, none⟩) hz0).trans y2; have r3 := (hSw.cell (p := ⟨g, k, none⟩) hgl).trans cg; go_simp; (try with_reducible rfl))); (try simp only [Act.put, List.setIfInBounds_toArray, List.set_cons_zero, List.set_cons_succ])) | (apply ot_skip rfl (by rfl) (by rfl) (fun _ => hBe); (try simp only [Act.put, List.setIfInBounds_toArray, List.set_cons_zero, List.set_cons_succ])))
              refine ot_do rfl (by rfl) (by rfl) (fun K hK => ?_)
              go_simp
              refine (hmk _ _ _ _ _ hS6 (by omega)).mono ?_
              rintro e w7 ⟨rfl, m7, hw7⟩
              have hBe7 : Below wr.heap.size wr w7 := by rw [hw7]; exact below_drewN hBe m7
              clear hw7
              refine hK.out _ _ (fun _ => hBe7) ?_
              (try simp only [Act.put, List.setIfInBounds_toArray, List.set_cons_zero, List.set_cons_succ])
              clear hK K
              repeat (first | (apply ot_tk rfl (by rfl) (by rfl) (by rfl); (focus (intro wx hSw; have r0 := (hSw.cell (p := ⟨w.heap.size, 0, none⟩) hz0).trans y0; have r1 := (hSw.cell (p := ⟨w.heap.size, 1, none⟩) hz0).trans y1; have r2 := (hSw.cell (p := ⟨w.heap.size, 2, none⟩) hz0).trans y2; have r3 := (hSw.cell (p := ⟨g, k, none⟩) hgl).trans cg; go_simp; (try with_reducible rfl))); (try simp only [Act.put, List.setIfInBounds_toArray, List.set_cons_zero, List.set_cons_succ])) | (apply ot_skip rfl (by rfl) (by rfl) (fun _ => hBe); (try simp only [Act.put, List.setIfInBounds_toArray, List.set_cons_zero, List.set_cons_succ])))
              refine ot_do rfl (by rfl) (by rfl) (fun K hK => ?_)
              go_simp
              refine hK.out _ _ (fun h => absurd h (by omega)) ?_
              (try simp only [Act.put, List.setIfInBounds_toArray, List.set_cons_zero, List.set_cons_succ])
              clear hK K
              refine ot_nil ?_
              go_wp2_with fail
              go_meet
              exact ⟨rfl, hBe7⟩
          case rest =>
            obtain ⟨rfl, hb9⟩ := hcut
            have HFR := hide (show ∀ x ∈ fI F, i64ok x from fun x hx => by
              obtain ⟨m, hm, rfl⟩ := List.mem_map.1 hx
              have := (hF.out.isK m hm).1
              have := HP.out
              exact ⟨by omega, by omega⟩)
            obtain ⟨mm, hmm⟩ : ∃ mm, nxt os N f j = mm := ⟨_, rfl⟩
            rw [hmm] at hnx hPu hMt ⊢
            have hmP : mm < 65536 := Nat.lt_of_lt_of_le hnx HP.out
            replace hO := hO.below hb9
            replace hBe := hB0.trans (hb9.mono hB0.size)
            have hSl := hO.here HFL.out.symm.symm HFR.out
            have hFl6 : F.length ≤ 1048576 := by omega
            clear hB0 y0 y1 y2 cg hb9 hel hge hmk hmm HR6 HG6 hfK hnx hgl hz0 hml
            go_wp2_with fail
            refine (sContains_any _ _ _ _ _ (fI F) mm hSl hFl6).mono ?_
            rintro e w3 ⟨rfl, m3, rfl⟩
            replace hO := hO.drewN m3
            replace hBe := below_drewN hBe m3
            by_cases hm : mm ∈ F
            · have hT : hasB (fI F) (mm : Int) = true := hasB_iff.2 (fI_mem.2 hm)
              have hQ' := hide (hMt.out hm)
              rw [hT]
              clear hm hT
              go_wp2_with fail
              go_roundw
              case rel => exact ⟨j + 1, F, _, by omega, by go_num, rfl, hkF, hQ', hFl, hO, hBe⟩
              case measure => simp [intOf] <;> omega
            · have hT : hasB (fI F) (mm : Int) = false := by
                refine Bool.eq_false_iff.2 fun h9 => hm (fI_mem.1 (hasB_iff.1 h9))
              have hQ' := hide (hPu.out hm)
              have hl' : (F ++ [mm]).length ≤ P := by have := hQ'.out.len; rw [HPE.out] at this; exact this
              have HAP := hide (fI_app F mm)
              have hflr := HFL.out
              have hflr6 : (fI F).length ≤ 1048576 := by omega
              clear hflr
              rw [hT]
              clear hm hT
              go_wp2_with (at_builtin; refine list_push _ rfl _ _ rfl W.heap.size _ (fI F) rfl (hO.alloc _) (mm : Int) _ _ rfl (Blk.new _ _ _) hflr6 (by have := hBe.size; simp at this ⊢; omega) (by simp) ?_; intro g' cap' w4 hP4)
              go_roundw
              case rel => exact ⟨j + 1, F ++ [mm], _, by omega, by go_num, rfl, by simp; omega, hQ', hl', by rw [HAP.out]; exact hP4.own, (hBe.alloc hBe.size _).trans (hP4.below (hO.alloc _) (by have := hBe.size; simp at this ⊢; omega))⟩
              case measure => simp [intOf] <;> omega
        · obtain rfl : j = N := by omega
          have hR := hide hF.out.row
          obtain ⟨vA, vc, rfl⟩ := hO.val
          go_wp2_with fail
          go_roundw
          case rel => exact ⟨k + 1, F, _, by omega, by go_num, rfl, hR, hFl, hO, hBe⟩
          case measure => simp [intOf] <;> omega
    · obtain rfl : k = F.length := by omega
      have hE := hide (hF.out.sort hG HN.out.symm (Nat.le_refl _))
      have hO' : Ow wr W.heap.size (.slice vA F.length vc) (fI F) := hO
      go_wp2_with fail
      refine (sort_any _ W.heap.size _ (fI F) hO (by rw [fI_len]; omega)).mono ?_
      rintro e w3 ⟨rfl, hO3, hg3⟩
      have hB3 : Below W.heap.size W w3 := hBe.grown hg3 hBe.size (fun b hb => (hO.lt b hb).1)
      rw [show srt (fI F) = sgK os N from hE.out] at hO3
      go_wp2_with fail
      go_ret
      exact ⟨_, rfl, hO3.less (Nat.le_of_lt hszW), hbW.trans (hB3.mono (Nat.le_of_lt hszW))⟩
end Go.Proofs.YtbpihnpakolooaaGreatDoor
