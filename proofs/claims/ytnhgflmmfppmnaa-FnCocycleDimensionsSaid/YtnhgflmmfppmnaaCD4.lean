
/- The walk of rankModulo of the program. -/
import Derived.Test.YtnhgflmmfppmnaaCD3
import Derived.Test.YtnhgflmmfppmnaaCI2
import Derived.Test.YtnhgflmmfppmnaaOrP
import Derived.Deep.LoopGhost
import Derived.Deep.DeepCutAuto
namespace Go.Proofs.Ytnhgflmmfppmnaa
open Go Go.RowKit Grp Rk
set_option linter.unusedSimpArgs false
set_option linter.unusedVariables false
set_option maxRecDepth 100000
/-- The program's rows, and its column's number in block P. -/
structure Rm (w : World) (S : Nat) (v : Value) (rows : List (List Int)) (P c : Nat) (wr : World) : Prop where
  rws : E2 wr v rows (fun b => w.heap.size ≤ b ∧ b < S)
  col : Blk wr P 3 #[.int .i64 c]
  PS : S ≤ P
  wS : w.heap.size ≤ S
  below : Below w.heap.size w wr
section
variable {w wr w' : World} {S P c : Nat} {v : Value} {rows rows' : List (List Int)}
theorem Rm.bel (h : Rm w S v rows P c wr) (hb : Below wr.heap.size wr w') : Rm w S v rows P c w' :=
  ⟨E2.below h.rws hb, h.col.all hb, h.PS, h.wS, h.below.trans (hb.mono h.below.size)⟩
/-- The rows' own blocks have turned. -/
theorem Rm.turn (h : Rm w S v rows P c wr) (hw : Wr wr w' (fun b => w.heap.size ≤ b ∧ b < S)) (hE : E2 w' v rows' (fun b => w.heap.size ≤ b ∧ b < S)) : Rm w S v rows' P c w' :=
  ⟨hE, hw.blk h.col (fun hb => by have := hb.2; have := h.PS; omega), h.PS, h.wS, h.below.trans (hw.below (fun b hb => hb.1) h.below.size)⟩
theorem Rm.next (h : Rm w S v rows P c wr) {P' : Nat} (hP : wr.heap.size = P') : Rm w S v rows P' (c + 1) (wr.alloc (.cells #[.int .i64 ((c : Int) + 1)] 3)) := by
  have hs := h.col.lt
  have hPS := h.PS
  refine ⟨E2.below h.rws ((Below.refl _ _).alloc (Nat.le_refl _) _), ?_, by omega, h.wS, h.below.alloc h.below.size _⟩
  have := Blk.new' wr 3 #[.int .i64 ((c : Int) + 1)] P' hP
  simpa using this
end
set_option maxHeartbeats 8000000 in
theorem rankModulo_any (w : World) (p : Int) (A : Option Addr) (k c : Nat) (xs : List (List Int)) (m : Nat) (h : Sl2 w w.heap.size A k c xs) (hk : k ≤ 1000000) (hm : m ≤ 1000) (hp : Pr4 p) (hx : ∀ x ∈ xs, In01 p m x) :
    Calls Try.prog 19 #[.slice A k c, .int .i64 p] w (fun e w' => ∃ r : Nat, e = .returned (.int .i64 r) ∧ HasRk p m (Rk.Rows xs.length fun i => vec (xs.getD i [])) r ∧ Below w.heap.size w w') := by
  have hpr := hp.rng
  have hlen := hide h.len
  go_enter Try.func19, Try.ntmps19
  go_wp2_with fail
  have hG0 : Grow E1 24 w.heap.size (w.alloc (.cells #[] 24)) (.slice (some ⟨w.heap.size, 0, none⟩) 0 0) (xs.take 0) := Grow.start rfl (Nat.le_refl _)
  go_loopw [6, 19] (fun o i wr => ∃ (q : Nat) (vv : Value), q ≤ k ∧ vv = o ∧ i = .int .i64 q ∧ Grow E1 24 w.heap.size wr vv (xs.take q) ∧ Below w.heap.size w wr) (fun _ i _ => k - (intOf i).toNat)
  case atStart => exact ⟨0, _, by omega, rfl, rfl, hG0, (Below.refl _ _).alloc (Nat.le_refl _) _⟩
  case round =>
    clear hG0
    obtain ⟨q, vv, hq, rfl, rfl, hG, hB⟩ := hrel
    by_cases hlq : q < k
    · obtain ⟨x, hxx⟩ := get_at (xs := xs) (k := q) (by rw [hlen.out]; exact hlq)
      obtain ⟨b0, off0, rfl, hb0⟩ := RdL.addr h (by omega)
      obtain ⟨A1, n1, c1, e1, s1⟩ := (h.below hB).row hxx
      have hnm : m = n1 := by rw [← s1.len]; exact (hx x (get_mem hxx)).1.symm
      subst hnm
      have HIN := hide (hx x (get_mem hxx))
      have HT := hide (show xs.take (q + 1) = xs.take q ++ [x] by rw [List.take_add_one, hxx]; rfl)
      have hsz := hB.size
      have HTL := hide (show (xs.take q).length = q by rw [List.length_take, hlen.out]; omega)
      clear hxx
      go_wp2_with fail
      refine (clone_any wr w.heap.size A1 m c1 x s1 hsz (by omega)).mono ?_
      rintro e w1 ⟨vL, rfl, hO, hb1⟩
      have hE := E1.of_ow hO (HIN.out.ok (by omega))
      obtain ⟨AL, cL, rfl, _⟩ := hO.sl (HIN.out.ok (by omega))
      rw [show x.length = m from HIN.out.1] at hE ⊢
      have hbw : Below wr.heap.size wr (w1.alloc (.cells #[.slice AL m cL] 24)) := hb1.alloc hb1.size _
      have hE2 := E1.below hE ((Below.refl _ _).alloc (Nat.le_refl _) (.cells #[.slice AL m cL] 24))
      clear hO hE e1 s1
      go_wp2_with (at_builtin; refine list_pushG kp1 39 24 _ 24 Try.underlying39 rows_info (by omega) rfl _ rfl _ _ rfl w.heap.size vv _ rfl wr hG hbw (.slice AL m cL) _ _ hE2 (fun b hb => ⟨hb.1, by have := hb.2; simp; omega⟩) rfl w1.heap.size _ rfl (Blk.new _ _ _) (by rw [HTL.out]; omega) hsz (by simp) ?_; intro g cap w4 hG4 hB4 hW4 hg4 hg5)
      have hbx := (hB.trans (hbw.mono hsz)).trans hB4
      have HG4 := hide (show Grow E1 24 w.heap.size w4 (.slice (some ⟨g, 0, none⟩) (min q xs.length + 1) cap) (xs.take (q + 1)) by rw [HT.out, ← List.length_take]; exact hG4)
      clear hG4 hW4 hE2 hbw hb1 hG
      go_roundw
      case rel => exact ⟨q + 1, _, by omega, rfl, by go_num, HG4.out, hbx⟩
      case measure => simp [intOf] <;> omega
    · obtain rfl : k = q := by omega
      have hR : E2 wr vv xs (fun b => w.heap.size ≤ b ∧ b < wr.heap.size) := by
        have h9 := hG.toL
        rw [List.take_of_length_le (by rw [hlen.out]; exact Nat.le_refl _)] at h9
        exact h9
      clear hG
      by_cases hz : k = 0
      · subst hz
        have hxe : xs = [] := List.eq_nil_of_length_eq_zero hlen.out
        obtain ⟨AV, cV, rfl, _⟩ := E2.sl2 hR
        rw [hlen.out]
        have HE := hide (show HasRk p m (Rk.Rows xs.length fun i => vec (xs.getD i [])) 0 by
          rw [hxe]
          exact (Im.start (p := p) (m := m) (rows := ([] : List (List Int))) (fun i hi => absurd hi (by simp))).rk (Nat.zero_le _) (.inl rfl))
        rw [hlen.out] at HE
        have hBd : Dr (wr.alloc (.cells #[.int .i64 0] 3)) (wr.alloc (.cells #[.int .i64 0] 3)) := Dr.refl _
        have hBB := hB.alloc hB.size (.cells #[.int .i64 0] 3)
        clear hR hxe hB
        go_wp2_with fail
        refine wp_loop_rounds 1 ?_
        rw [rounds_succ]
        go_wp2_with fail
        refine wp_region_dr [0, 1, 2, 3, 4, 5, 6, 7, 8, 9, 10] 11 (wr.alloc (.cells #[.int .i64 0] 3)) (by kernel_rfl) (by kernel_rfl) (by kernel_rfl) (fun _ _ _ _ _ h => h) hBd (fun wd hDr => ?_)
        repeat (first | (apply ord_tk rfl (by rfl) (by rfl) (by rfl); (focus (rintro w ⟨dm, rfl⟩; go_simp; (try with_reducible rfl))); (try simp only [Act.put, List.setIfInBounds_toArray, List.set_cons_zero, List.set_cons_succ])) | (apply ord_skip rfl (by rfl) (by rfl) (fun _ => hDr); (try simp only [Act.put, List.setIfInBounds_toArray, List.set_cons_zero, List.set_cons_succ])))
        refine ord_nil ?_
        obtain ⟨d, rfl⟩ := hDr
        go_wp2_with fail
        go_ret
        exact ⟨0, rfl, by rw [hlen.out]; exact HE.out, below_drewN hBB _⟩
      · have hkp : 0 < xs.length := by rw [hlen.out]; omega
        obtain ⟨gv, cV, rfl, hgv, hgl, hfz⟩ := E2.own_form hR hkp
        rw [hlen.out] at hR ⊢
        obtain ⟨S, hS⟩ : ∃ S, wr.heap.size = S := ⟨_, rfl⟩
        have hRm : Rm w S (.slice (some ⟨gv, 0, none⟩) k cV) xs S 0 (wr.alloc (.cells #[.int .i64 0] 3)) := by
          rw [← hS]
          exact ⟨E2.below hR ((Below.refl _ _).alloc (Nat.le_refl _) _), Blk.new _ _ _, Nat.le_refl _, hB.size, hB.alloc hB.size _⟩
        have HI0 := hide (Im.start (p := p) (m := m) (rows := xs) (fun i hi => by obtain ⟨x, hxi⟩ := get_at hi; rw [getD_of hxi]; exact hx x (get_mem hxi)))
        rw [hlen.out] at HI0
        go_wp2_with fail
        (try rw [hS])
        obtain ⟨w1, hw1⟩ : ∃ w1, wr.alloc (.cells #[.int .i64 0] 3) = w1 := ⟨_, rfl⟩
        rw [hw1] at hRm ⊢
        clear hw1 hR hgv hgl hfz hkp hB
        go_loopg [5, 9] m (fun gk d pc wx => ∃ (dn cn P : Nat) (rows : List (List Int)) (l : Nat → Nat), cn ≤ m ∧ gk + cn = m ∧ dn < k ∧ d = .int .i64 dn ∧ pc = .pointer (some ⟨P, 0, none⟩) ∧ Rm w S (.slice (some ⟨gv, 0, none⟩) k cV) rows P cn wx ∧ Hid (Im p m (Rk.Rows k fun i => vec (xs.getD i [])) rows dn cn l) ∧ Hid (rows.length = k))
        case atStart => exact ⟨0, 0, S, xs, _, by omega, by omega, by omega, rfl, rfl, hRm, HI0, hlen⟩
        case round =>
          clear hRm HI0
          obtain ⟨dn, cn, P, rows, l, hcn, hgk, hdn, rfl, rfl, hR, HI, HN⟩ := hrel
          have HGK := hide hgk
          obtain ⟨A0, c0, e0, s0⟩ := E2.sl2 hR.rws
          rw [HN.out] at e0 s0
          cases e0
          obtain ⟨x0, hx0⟩ := get_at (xs := rows) (k := 0) (by rw [HN.out]; omega)
          obtain ⟨A1, n1, c1, f1, s1⟩ := s0.row hx0
          have hnm : m = n1 := by rw [← s1.len, ← getD_of (d := []) hx0]; exact (HI.out.in01 0 (by rw [HN.out]; omega)).1.symm
          subst hnm
          have F1 := hide f1
          have C0 := hide (hR.col.cell 0)
          have hPl := hR.col.lt
          have hgl : gv < wr.heap.size := World.block_lt_of_cell? _ _ f1
          obtain ⟨w2, rfl⟩ : ∃ w2, w2 = wr := ⟨_, rfl⟩
          have hk0 : 0 < k := by omega
          have hkcV : k ≤ cV := s0.cap
          have hcV1 : dn < cV := by omega
          have hcV2 : ¬ cV - dn = 0 := by omega
          have hcV3 : ¬ cV = dn := by omega
          have hcV4 : ¬ (cV : Int) - (dn : Int) = 0 := by omega
          clear hgk f1 s1 hx0
          by_cases hc : cn < m
          · skip
            go_wp2_with fail
            refine wp_region_be [0, 1, 2, 3, 4, 5, 6, 7, 8, 9, 10] 11 w2.heap.size w2 (by kernel_rfl) (by kernel_rfl) (by kernel_rfl) (fun _ _ _ _ _ h => h) (Below.refl _ _) (fun wd hBe => ?_)
            repeat (first | (apply ord_tk rfl (by rfl) (by rfl) (by rfl); (focus (intro wx hSw; have r1 := (hSw.cell (p := ⟨P, 0, none⟩) hPl).trans C0.out; have r2 := (hSw.cell (p := ⟨gv, 0, none⟩) hgl).trans F1.out; go_simp; (try with_reducible rfl))); (try simp only [Act.put, List.setIfInBounds_toArray, List.set_cons_zero, List.set_cons_succ])) | (apply ord_skip rfl (by rfl) (by rfl) (fun _ => hBe); (try simp only [Act.put, List.setIfInBounds_toArray, List.set_cons_zero, List.set_cons_succ])))
            refine ord_nil ?_
            have hR3 := hR.bel hBe
            have s3 := (s0.below hBe).more hBe.size
            clear s0
            have C3 := hide (hR3.col.cell 0)
            go_wp2_with fail
            have hdrop := (s3.drop (d := dn) (by omega))
            simp only [Nat.zero_add] at hdrop
            refine (rkIx_any wd (some ⟨gv, dn, none⟩) (k - dn) (cV - dn) (rows.drop dn) P cn m hdrop (by omega) (fun x hx => ?_) hc C3.out).mono ?_
            · obtain ⟨i, hi, rfl⟩ := List.getElem_of_mem (List.mem_of_mem_drop hx)
              have := (HI.out.in01 i hi).1
              rwa [List.getD_eq_getElem?_getD, List.getElem?_eq_getElem hi] at this
            rintro e w4 ⟨hcase, hb4⟩
            have hR4 := hR3.bel hb4
            clear hdrop s3 C3
            rcases hcase with ⟨r, rfl, hrn, hrz⟩ | ⟨rfl, hall⟩
            · obtain ⟨en, hde⟩ : ∃ en, dn + r = en := ⟨_, rfl⟩
              have hen : en < k := by omega
              have hrz' : gi (rows.getD en []) cn ≠ 0 := by
                rw [List.getD_eq_getElem?_getD, List.getElem?_drop, hde, ← List.getD_eq_getElem?_getD] at hrz
                exact hrz
              have hS4 := HI.out.swap (e := en) (by omega) (by rw [HN.out]; exact hen)
              obtain ⟨g4, c4, e4, hg4, hgl4, hfz⟩ := E2.own_form hR4.rws (by rw [HN.out]; omega)
              rw [HN.out] at e4
              cases e4
              obtain ⟨A4, c4', e4, s4⟩ := E2.sl2 hR4.rws
              rw [HN.out] at e4 s4
              cases e4
              obtain ⟨xd, hxd⟩ := get_at (xs := rows) (k := dn) (by rw [HN.out]; omega)
              obtain ⟨xe, hxe⟩ := get_at (xs := rows) (k := en) (by rw [HN.out]; omega)
              obtain ⟨Ad, nd, cd, fd, _⟩ := s4.row hxd
              obtain ⟨Ae, ne, ce, fe, _⟩ := s4.row hxe
              simp only [Nat.zero_add] at fd fe
              have t1 : ¬ (r : Int) < 0 := by omega
              have hwr : IntKind.i64.wrap ((dn : Int) + (r : Int)) = (en : Int) := (wr64 _ ⟨by omega, by omega⟩).trans (by omega)
              have HDE := hide hde
              have HRZ := hide hrz'
              have HS4 := hide hS4
              have FD0 := hide fd
              have FE0 := hide fe
              clear hxd hxe s4 hrz hrz' hde hS4 fd fe hfz
              go_wp2_with fail
              obtain ⟨w5, hw5⟩ : ∃ w5, w4.drew = w5 := ⟨_, rfl⟩
              have hb5 : Below w4.heap.size w4 w5 := by rw [← hw5]; exact (Below.refl _ _).drew
              have hR5 := hR4.bel hb5
              have fd := (hb5.cell (p := ⟨gv, dn, none⟩) hgl4).trans FD0.out
              have fe := (hb5.cell (p := ⟨gv, en, none⟩) hgl4).trans FE0.out
              obtain ⟨g4, c4, e4, _, hgl5, hfz⟩ := E2.own_form hR5.rws (by rw [HN.out]; omega)
              rw [HN.out] at e4
              cases e4
              have HSW := hide (E2.swap hR5.rws HN.out hdn hen fd fe)
              obtain ⟨⟨uu, hc2⟩, hf2⟩ := E2.cell2 (d := dn) hR5.rws HN.out hen (.slice Ae ne ce)
              have FD := hide fd
              have FE := hide fe
              have HFZ := hide (hfz dn)
              have HC2 := hide hc2
              have HF2 := hide hf2
              clear fd fe hfz hc2 hf2
              have hBe : Below w5.heap.size w5 w4.drew := by rw [hw5]; exact Below.refl _ _
              refine OrP.wp_region_ord [0, 1, 2, 3, 4, 5, 6, 7, 8, 9, 10, 11, 12, 13, 14, 15, 16, 17, 18, 19] 16 (Below w5.heap.size w5) (by kernel_rfl) (by kernel_rfl) (by kernel_rfl) (fun _ _ _ _ _ h => h) hBe ?_
              rw [hw5]
              clear hBe
              have hBe : Below w5.heap.size w5 w5 := Below.refl _ _
              repeat (first | (apply OrP.ord_pt rfl (by rfl) (by rfl) (by rfl) (by rfl); (focus (intro wx hSw; go_simp; (try with_reducible rfl))); (try simp only [Act.put, List.setIfInBounds_toArray, List.set_cons_zero, List.set_cons_succ])) | (apply OrP.ord_tk rfl (by rfl) (by rfl) (by rfl) (by rfl); (focus (intro wx hSw; have r1 := (hSw.cell (p := ⟨gv, dn, none⟩) hgl5).trans FD.out; have r2 := (hSw.cell (p := ⟨gv, en, none⟩) hgl5).trans FE.out; go_simp; (try with_reducible rfl))); (try simp only [Act.put, List.setIfInBounds_toArray, List.set_cons_zero, List.set_cons_succ])) | (apply OrP.ord_skip rfl (by rfl) (by rfl) (fun _ => hBe); (try simp only [Act.put, List.setIfInBounds_toArray, List.set_cons_zero, List.set_cons_succ])))
              have y1 := FD.out
              have y2 := HFZ.out
              refine OrP.ord_do rfl (by rfl) (by rfl) (fun K hK => ?_)
              go_simp
              refine hK.out _ _ (fun h => absurd h (by omega)) ?_
              (try simp only [Act.put, List.setIfInBounds_toArray, List.set_cons_zero, List.set_cons_succ])
              clear hK K
              clear y1 y2
              repeat (first | (apply OrP.ord_pt rfl (by rfl) (by rfl) (by rfl) (by rfl); (focus (intro wx hSw; go_simp; (try with_reducible rfl))); (try simp only [Act.put, List.setIfInBounds_toArray, List.set_cons_zero, List.set_cons_succ])) | (apply OrP.ord_tk rfl (by rfl) (by rfl) (by rfl) (by rfl); (focus (intro wx hSw; skip; go_simp; (try with_reducible rfl))); (try simp only [Act.put, List.setIfInBounds_toArray, List.set_cons_zero, List.set_cons_succ])) | (apply OrP.ord_skip rfl (by rfl) (by rfl) (fun _ => hBe); (try simp only [Act.put, List.setIfInBounds_toArray, List.set_cons_zero, List.set_cons_succ])))
              have y1 := HC2.out
              have y2 := HF2.out
              refine OrP.ord_do rfl (by rfl) (by rfl) (fun K hK => ?_)
              go_simp
              refine hK.out _ _ (fun h => absurd h (by omega)) ?_
              (try simp only [Act.put, List.setIfInBounds_toArray, List.set_cons_zero, List.set_cons_succ])
              clear hK K
              clear y1 y2
              refine OrP.ord_nil ?_
              have hws : Wr w5 ((w5.setCell ⟨gv, dn, none⟩ (.slice Ae ne ce)).setCell ⟨gv, en, none⟩ (.slice Ad nd cd)) (fun b => w.heap.size ≤ b ∧ b < S) :=
                ⟨rfl, rfl, rfl, by simp [World.setCell], fun b _ hn => by
                  have hb : b ≠ gv := fun e => hn (by rw [e]; exact hg4)
                  rw [Below.heap_setCell _ ⟨gv, en, none⟩ _ b hb, Below.heap_setCell _ ⟨gv, dn, none⟩ _ b hb]⟩
              have hR6 := hR5.turn hws HSW.out
              obtain ⟨w6, hw6⟩ : ∃ w6, (w5.setCell ⟨gv, dn, none⟩ (.slice Ae ne ce)).setCell ⟨gv, en, none⟩ (.slice Ad nd cd) = w6 := ⟨_, rfl⟩
              have hN6 := hide (show (swp rows dn en).length = k by rw [swp_len]; exact HN.out)
              have hpv : gi ((swp rows dn en).getD dn []) cn ≠ 0 := by
                rw [swp_get (by rw [HN.out]; exact hdn) (by rw [HN.out]; exact hen)]
                by_cases e : dn = en
                · rw [if_pos e, e]; exact HRZ.out
                · rw [if_neg e, if_pos rfl]; exact HRZ.out
              obtain ⟨R6, hR6'⟩ : ∃ R6, swp rows dn en = R6 := ⟨_, rfl⟩
              rw [hw6] at hR6 ⊢
              rw [hR6'] at hR6 hN6 hpv HS4
              have hin6 := HS4.out.in01 dn (by rw [hN6.out]; exact hdn)
              have hrg6 := hin6.2 cn hc
              obtain ⟨pv, hpve⟩ : ∃ pv, gi (R6.getD dn []) cn = pv := ⟨_, rfl⟩
              rw [hpve] at hpv hrg6
              obtain ⟨iv, i1, i2, i3, i4⟩ := inv_least hp (show 0 < pv by omega) hrg6.2
              have I3 := hide i3
              have I4 := hide i4
              have HPV := hide hpve
              have HIN6 := hide hin6
              clear hws HSW FD FE HFZ HC2 HF2 HDE HRZ hwr hR5 hBe hb5 hw5 hR4 hR3 hR hw6 hR6' hpv hpve hin6 i3 i4 FD0 FE0 hgl4 hgl5 HI HN
              clear F1 hPl hgl hcV2 hcV3 hcV4 hBe hb4 hrn hen t1
              go_wp2_with fail
              go_loopw [11] (fun i wx => ∃ j : Nat, 1 ≤ j ∧ j ≤ iv ∧ i = .int .i64 j ∧ Rm w S (.slice (some ⟨gv, 0, none⟩) k cV) R6 P cn wx) (fun i _ => iv - (intOf i).toNat)
              case atStart => exact ⟨1, by omega, by omega, rfl, hR6⟩
              case round =>
                clear hR6
                obtain ⟨j, hj1, hji, rfl, hR6⟩ := hrel
                obtain ⟨gd, cd', fd, hgl, hgdl, hgd, _, hnum, _⟩ := E2.rowAt hR6.rws hN6.out hdn HIN6.out.1 (by omega)
                have FD := hide fd
                have FN := hide (hnum cn hc)
                rw [HPV.out] at FN
                have CC := hide (hR6.col.cell 0)
                have hPl := hR6.col.lt
                have m0 : 0 ≤ (j : Int) * pv := Int.mul_nonneg (by omega) hrg6.1
                have m1 : (j : Int) * pv ≤ 7 * 7 := Int.mul_le_mul (by omega) (by omega) hrg6.1 (by omega)
                have q1 : IntKind.i64.wrap ((j : Int) * pv) = (j : Int) * pv := wr64 _ ⟨by omega, by omega⟩
                have q4 : ¬ p = 0 := by omega
                have q2 : ((j : Int) * pv).tmod p = (j : Int) * pv % p := Int.tmod_eq_emod_of_nonneg m0
                obtain ⟨y, hy⟩ : ∃ y, (j : Int) * pv % p = y := ⟨_, rfl⟩
                rw [hy] at q2
                have HY := hide hy
                have HR6 := hide hR6
                obtain ⟨w7, rfl⟩ : ∃ w7, w7 = wr := ⟨_, rfl⟩
                clear fd hnum hy hR6
                by_cases hlj : j < iv
                · have hy1 : y ≠ 1 := fun e => I4.out j hj1 hlj (by rw [HY.out, e])
                  have q3 : (y != 1) = true := by simp [hy1]
                  clear hy1
                  go_wp2_with fail
                  refine wp_region_be [0, 1, 2, 3, 4, 5, 6, 7, 8, 9, 10, 11] 12 w7.heap.size w7 (by kernel_rfl) (by kernel_rfl) (by kernel_rfl) (fun _ _ _ _ _ h => h) (Below.refl _ _) (fun wd hBe => ?_)
                  repeat (first | (apply ord_tk rfl (by rfl) (by rfl) (by rfl); (focus (intro wx hSw; have r1 := (hSw.cell (p := ⟨gv, dn, none⟩) hgl).trans FD.out; have r2 := (hSw.cell (p := ⟨P, 0, none⟩) hPl).trans CC.out; have r3 := (hSw.cell (p := ⟨gd, cn, none⟩) hgdl).trans FN.out; go_simp; (try with_reducible rfl))); (try simp only [Act.put, List.setIfInBounds_toArray, List.set_cons_zero, List.set_cons_succ])) | (apply ord_skip rfl (by rfl) (by rfl) (fun _ => hBe); (try simp only [Act.put, List.setIfInBounds_toArray, List.set_cons_zero, List.set_cons_succ])))
                  refine ord_nil ?_
                  have hR7 := HR6.out.bel hBe
                  clear hBe
                  go_wp2_with fail
                  go_roundw
                  case rel => exact ⟨j + 1, by omega, by omega, by go_num, hR7⟩
                  case measure => simp [intOf] <;> omega
                · obtain rfl : iv = j := by omega
                  have hy1 : y = 1 := by rw [← HY.out]; exact I3.out
                  subst hy1
                  have q3 : ((1 : Int) != 1) = false := rfl
                  go_wp2_with fail
                  refine wp_region_be [0, 1, 2, 3, 4, 5, 6, 7, 8, 9, 10, 11] 12 w7.heap.size w7 (by kernel_rfl) (by kernel_rfl) (by kernel_rfl) (fun _ _ _ _ _ h => h) (Below.refl _ _) (fun wd hBe => ?_)
                  repeat (first | (apply ord_tk rfl (by rfl) (by rfl) (by rfl); (focus (intro wx hSw; have r1 := (hSw.cell (p := ⟨gv, dn, none⟩) hgl).trans FD.out; have r2 := (hSw.cell (p := ⟨P, 0, none⟩) hPl).trans CC.out; have r3 := (hSw.cell (p := ⟨gd, cn, none⟩) hgdl).trans FN.out; go_simp; (try with_reducible rfl))); (try simp only [Act.put, List.setIfInBounds_toArray, List.set_cons_zero, List.set_cons_succ])) | (apply ord_skip rfl (by rfl) (by rfl) (fun _ => hBe); (try simp only [Act.put, List.setIfInBounds_toArray, List.set_cons_zero, List.set_cons_succ])))
                  refine ord_nil ?_
                  have hR7 := HR6.out.bel hBe
                  clear hBe
                  clear FD FN CC q3 m0 m1 q1 q2
                  have hEl := hide (El.start HS4.out (by rw [hN6.out]; exact hdn) (show (iv : Int) * gi (R6.getD dn []) cn % p = 1 by rw [HPV.out]; exact I3.out))
                  have hwd1 : IntKind.i64.wrap ((dn : Int) + 1) = (dn : Int) + 1 := wr64 _ ⟨by omega, by omega⟩
                  by_cases hcz : cV = dn + 1
                  · have z1 : cV - (dn + 1) = 0 := by omega
                    have z2 : k - (dn + 1) = 0 := by omega
                    clear hcz hkcV
                    go_wp2_with fail
                    go_loopw [86] (fun i wx => ∃ (i2 : Nat) (rr : List (List Int)), i2 ≤ k - (dn + 1) ∧ i = .int .i64 i2 ∧ Rm w S (.slice (some ⟨gv, 0, none⟩) k cV) rr P cn wx ∧ Hid (El p m (Rk.Rows k fun i => vec (xs.getD i [])) rr dn cn l iv (dn + 1 + i2)) ∧ Hid (rr.length = k)) (fun i _ => (k - (dn + 1)) - (intOf i).toNat)
                    case atStart => exact ⟨0, R6, by omega, rfl, hR7, hEl, hN6⟩
                    case round =>
                      clear hR7 hEl hN6 HR6
                      obtain ⟨i2, rr, hi2, rfl, hR, HEL, HNr⟩ := hrel
                      by_cases hli : i2 < k - (dn + 1)
                      · exact absurd hli (by omega)
                      · have hi2e : i2 = k - (dn + 1) := by omega
                        have hfin : ∃ l', Im p m (Rk.Rows k fun i => vec (xs.getD i [])) rr (dn + 1) (cn + 1) l' := by
                          have h9 := HEL.out
                          rw [show dn + 1 + i2 = rr.length by rw [HNr.out]; omega] at h9
                          exact h9.finish hpr.1
                        obtain ⟨l2, hIm2⟩ := hfin
                        have HIM := hide hIm2
                        clear hIm2
                        by_cases hlast : dn + 1 = k
                        · have HE := hide (HIM.out.rk (by omega) (.inl (by rw [HNr.out]; exact hlast)))
                          have t9 : (((dn : Int) + 1) == (k : Int)) = true := by simp; omega
                          go_wp2_with fail
                          go_ret
                          exact ⟨dn + 1, by simp, by rw [hlen.out]; exact HE.out, hR.below⟩
                        · exact absurd (show dn + 1 = k by omega) hlast
                  · have z1 : ¬ cV - (dn + 1) = 0 := by omega
                    have z2 : ¬ (cV : Int) - ((dn : Int) + 1) = 0 := by omega
                    have z3 : dn + 1 < cV := by omega
                    go_wp2_with fail
                    go_loopw [86] (fun i wx => ∃ (i2 : Nat) (rr : List (List Int)), i2 ≤ k - (dn + 1) ∧ i = .int .i64 i2 ∧ Rm w S (.slice (some ⟨gv, 0, none⟩) k cV) rr P cn wx ∧ Hid (El p m (Rk.Rows k fun i => vec (xs.getD i [])) rr dn cn l iv (dn + 1 + i2)) ∧ Hid (rr.length = k)) (fun i _ => (k - (dn + 1)) - (intOf i).toNat)
                    case atStart => exact ⟨0, R6, by omega, rfl, hR7, hEl, hN6⟩
                    case round =>
                      clear hR7 hEl hN6 HR6
                      obtain ⟨i2, rr, hi2, rfl, hR, HEL, HNr⟩ := hrel
                      by_cases hli : i2 < k - (dn + 1)
                      · obtain ⟨ii, hii⟩ : ∃ ii, dn + 1 + i2 = ii := ⟨_, rfl⟩
                        have hiik : ii < k := by omega
                        have hini := HEL.out.im.in01 ii (by rw [HNr.out]; exact hiik)
                        have hind := HEL.out.im.in01 dn (by rw [HNr.out]; exact hdn)
                        have hstep := HEL.out.step hpr.1 (by omega) (by rw [HNr.out]; omega) hc
                        rw [hii] at hstep
                        have hz1 : ∀ j, j < cn → gi (rr.getD ii []) j = 0 := fun j hj => HEL.out.im.zero ii j (by omega) (by rw [HNr.out]; exact hiik) hj
                        have hz2 : ∀ j, j < cn → gi (rr.getD dn []) j = 0 := fun j hj => HEL.out.im.zero dn j (Nat.le_refl _) (by rw [HNr.out]; exact hdn) hj
                        obtain ⟨gI, cI, fi, hgl, hgIl, hgI, hgne, hnum, _⟩ := E2.rowAt hR.rws HNr.out hiik hini.1 (by omega)
                        have fx := hnum cn hc
                        have hx0 := hini.2 cn hc
                        obtain ⟨r0, hr0⟩ : ∃ r0, rr.getD ii [] = r0 := ⟨_, rfl⟩
                        obtain ⟨q0, hq0⟩ : ∃ q0, rr.getD dn [] = q0 := ⟨_, rfl⟩
                        rw [hr0] at hini fx hx0 hstep hz1
                        rw [hq0] at hind hstep hz2
                        obtain ⟨x0, hxe0⟩ : ∃ x0, gi r0 cn = x0 := ⟨_, rfl⟩
                        rw [hxe0] at fx hx0 hstep
                        have m0 : 0 ≤ x0 * (iv : Int) := Int.mul_nonneg hx0.1 (by omega)
                        have m1 : x0 * (iv : Int) ≤ 7 * 7 := Int.mul_le_mul (by omega) (by omega) (by omega) (by omega)
                        have q1 : IntKind.i64.wrap (x0 * (iv : Int)) = x0 * (iv : Int) := wr64 _ ⟨by omega, by omega⟩
                        have q4 : ¬ p = 0 := by omega
                        have q2 : (x0 * (iv : Int)).tmod p = x0 * (iv : Int) % p := Int.tmod_eq_emod_of_nonneg m0
                        have hf0 := Int.emod_nonneg (x0 * (iv : Int)) q4
                        have hf1 := Int.emod_lt_of_pos (x0 * (iv : Int)) (show 0 < p by omega)
                        obtain ⟨f, hf⟩ : ∃ f, x0 * (iv : Int) % p = f := ⟨_, rfl⟩
                        rw [hf] at q2 hf0 hf1 hstep
                        have HST := hide hstep
                        have HII := hide hii
                        have HI1 := hide hini
                        have HI2 := hide hind
                        have HR0 := hide hr0
                        have HQ0 := hide hq0
                        have col := hR.col.cell 0
                        have FI := hide fi
                        have hT0 : rr.set ii (elimP p r0 q0 f cn) = rr := by
                          rw [elimP_start hz1 hz2, ← hr0]
                          exact set_getD_self (by rw [HNr.out]; exact hiik)
                        have hRT : Rm w S (.slice (some ⟨gv, 0, none⟩) k cV) (rr.set ii (elimP p r0 q0 f cn)) P cn wr := by rw [hT0]; exact hR
                        rw [← hii] at fi
                        clear hnum hz1 hz2 hstep hini hind hr0 hq0 hxe0 hf hT0 hR hii
                        go_wp2_with fail
                        clear fi col fx m0 m1 q1 q2
                        go_loopw [15] (fun i wx => ∃ kk : Nat, cn ≤ kk ∧ kk ≤ m ∧ i = .int .i64 kk ∧ Rm w S (.slice (some ⟨gv, 0, none⟩) k cV) (rr.set ii (elimP p r0 q0 f kk)) P cn wx ∧ Hid (wx.cell? ⟨gv, ii, none⟩ = some (.slice (some ⟨gI, 0, none⟩) m cI))) (fun i _ => m - (intOf i).toNat)
                        case atStart => exact ⟨cn, Nat.le_refl _, by omega, rfl, hRT, FI⟩
                        case round =>
                          clear hRT FI
                          obtain ⟨kk, hk1, hk2, rfl, hRT, FI⟩ := hrel
                          by_cases hfz : f = 0
                          · have t1 : (f != 0) = false := by simp [hfz]
                            have hRn : Rm w S (.slice (some ⟨gv, 0, none⟩) k cV) (rr.set ii (elim p r0 q0 f)) P cn wr := by
                              rw [hfz, elimP_zero HI1.out] at hRT
                              rw [hfz, elim_zero HI1.out]; exact hRT
                            clear hfz
                            go_wp2_with fail
                            go_roundw
                            case rel => exact ⟨i2 + 1, _, by omega, by go_num, hRn, by rw [← Nat.add_assoc, HII.out]; exact HST, hide (by rw [List.length_set]; exact HNr.out)⟩
                            case measure => simp [intOf] <;> omega
                          · have t1 : (f != 0) = true := by simp [hfz]
                            clear hfz
                            by_cases hlk : kk < m
                            · have hTl : (rr.set ii (elimP p r0 q0 f kk)).length = k := by rw [List.length_set]; exact HNr.out
                              have hTi : (rr.set ii (elimP p r0 q0 f kk)).getD ii [] = elimP p r0 q0 f kk := gd_set_self (by rw [HNr.out]; exact hiik)
                              have hTd : (rr.set ii (elimP p r0 q0 f kk)).getD dn [] = q0 := by rw [gd_set_ne (by have := HII.out; omega)]; exact HQ0.out
                              obtain ⟨gd, cd', fd, _, hgdl, _, _, hnd, _⟩ := E2.rowAt (i := dn) (m := m) hRT.rws hTl hdn (by rw [hTd]; exact HI2.out.1) (by omega)
                              obtain ⟨gj, cj, fj, hgl2, hgIl2, hgj, _, hnj, hput⟩ := E2.rowAt (i := ii) (m := m) hRT.rws hTl hiik (by rw [hTi, elimP_len]; exact HI1.out.1) (by omega)
                              rw [FI.out] at fj
                              injection fj with fj
                              injection fj with fj1 _ fj2
                              injection fj1 with fj1
                              injection fj1 with fj1 _ _
                              subst fj1
                              have n1 := hnj kk hlk
                              have n2 := hnd kk hlk
                              rw [hTi, elimP_gi (by rw [HI1.out.1]; exact hlk), if_neg (by omega)] at n1
                              rw [hTd] at n2
                              have ha := elim_arith hpr.1 hpr.2 (HI1.out.2 kk hlk) ⟨hf0, hf1⟩ (HI2.out.2 kk hlk)
                              obtain ⟨u1, hu1⟩ : ∃ u, gi r0 kk = u := ⟨_, rfl⟩
                              obtain ⟨u2, hu2⟩ : ∃ u, gi q0 kk = u := ⟨_, rfl⟩
                              have hset := elimP_step (p := p) (r := r0) (q := q0) (f := f) (k := kk) (by rw [HI1.out.1]; exact hlk)
                              rw [hu1] at n1 ha hset
                              rw [hu2] at n2 ha hset
                              obtain ⟨a1, a2, a3, a4, a5, a6⟩ := ha
                              obtain ⟨y, hy⟩ : ∃ y, (u1 - f * u2) % p = y := ⟨_, rfl⟩
                              rw [hy] at a4 a5 a6 hset
                              have HSET := hide hset
                              have HTI := hide hTi
                              have HTL := hide hTl
                              have FD := hide fd
                              have N1 := hide n1
                              have N2 := hide n2
                              have HRT := hide hRT
                              clear hput hnj hnd hset hy hu1 hu2 hTi hTd hTl fd n1 n2 fj2
                              obtain ⟨w9, rfl⟩ : ∃ w9, w9 = wr := ⟨_, rfl⟩
                              go_wp2_with fail
                              clear hRT
                              refine wp_region_be [0, 1, 2, 3, 4, 5, 6, 7, 8, 9, 10, 11, 12, 13, 14, 15, 16, 17, 18, 19, 20, 21, 22, 23] 22 w9.heap.size w9 (by kernel_rfl) (by kernel_rfl) (by kernel_rfl) (fun _ _ _ _ _ h => h) (Below.refl _ _) (fun wd hBe => ?_)
                              repeat (first | (apply ord_tk rfl (by rfl) (by rfl) (by rfl); (focus (intro wx hSw; have r1 := (hSw.cell (p := ⟨gI, kk, none⟩) hgIl2).trans N1.out; have r2 := (hSw.cell (p := ⟨gv, dn, none⟩) hgl2).trans FD.out; have r3 := (hSw.cell (p := ⟨gd, kk, none⟩) hgdl).trans N2.out; go_simp; (try with_reducible rfl))); (try simp only [Act.put, List.setIfInBounds_toArray, List.set_cons_zero, List.set_cons_succ])) | (apply ord_skip rfl (by rfl) (by rfl) (fun _ => hBe); (try simp only [Act.put, List.setIfInBounds_toArray, List.set_cons_zero, List.set_cons_succ])))
                              have hR10 := HRT.out.bel hBe
                              have hFI10 := (hBe.cell (p := ⟨gv, ii, none⟩) hgl2).trans FI.out
                              obtain ⟨gj', cj', fj', _, hgjl', hgj', hgne', hnj', hput'⟩ := E2.rowAt (i := ii) (m := m) hR10.rws HTL.out hiik (by rw [HTI.out, elimP_len]; exact HI1.out.1) (by omega)
                              rw [hFI10] at fj'
                              injection fj' with fj'
                              injection fj' with fj1 _ fj2
                              injection fj1 with fj1
                              injection fj1 with fj1 _ _
                              subst fj1
                              obtain ⟨hfr, hE10⟩ := hput' kk y hlk ⟨by omega, by omega⟩
                              rw [HTI.out, HSET.out, set_set_self] at hE10
                              have hws : Wr wd (wd.setCell ⟨gI, kk, none⟩ (.int .i64 y)) (fun b => w.heap.size ≤ b ∧ b < S) := ⟨rfl, rfl, rfl, by simp [World.setCell], fun b _ hn => Below.heap_setCell _ ⟨gI, kk, none⟩ _ b (fun e => hn (by rw [show b = gI from e]; exact hgj'))⟩
                              have HRN := hide (hR10.turn hws hE10)
                              have HFP := hide hFI10
                              clear fj2
                              have HFN := hide ((World.cell?_setCell_other wd ⟨gI, kk, none⟩ ⟨gv, ii, none⟩ (.int .i64 y) (fun e => hgne' (congrArg Addr.block e))).trans hFI10)
                              have s2 := hnj' kk hlk
                              have s3 := hfr
                              clear hput' hnj' hR10 hE10 hws hFI10
                              refine ord_do rfl (by rfl) (by rfl) (fun K hK => ?_)
                              go_simp
                              refine hK.out _ _ (fun h => absurd h (by omega)) ?_
                              (try simp only [Act.put, List.setIfInBounds_toArray, List.set_cons_zero, List.set_cons_succ])
                              clear hK K
                              refine ord_do rfl (by rfl) (by rfl) (fun K hK => ?_)
                              go_simp
                              refine hK.out _ _ (fun h => absurd h (by omega)) ?_
                              (try simp only [Act.put, List.setIfInBounds_toArray, List.set_cons_zero, List.set_cons_succ])
                              clear hK K
                              refine ord_nil ?_
                              clear s2 s3
                              go_wp2_with fail
                              go_roundw
                              case rel => exact ⟨kk + 1, by omega, by omega, by go_num, HRN.out, by first | exact HFN | exact HFP⟩
                              case measure => simp [intOf] <;> omega
                            · obtain rfl : m = kk := by omega
                              have hRn : Rm w S (.slice (some ⟨gv, 0, none⟩) k cV) (rr.set ii (elim p r0 q0 f)) P cn wr := by
                                have h9 := elimP_end p r0 q0 f
                                rw [HI1.out.1] at h9
                                rw [← h9]; exact hRT
                              clear hRT
                              go_wp2_with fail
                              go_roundw
                              case rel => exact ⟨i2 + 1, _, by omega, by go_num, hRn, by rw [← Nat.add_assoc, HII.out]; exact HST, hide (by rw [List.length_set]; exact HNr.out)⟩
                              case measure => simp [intOf] <;> omega
                      · have hi2e : i2 = k - (dn + 1) := by omega
                        have hfin : ∃ l', Im p m (Rk.Rows k fun i => vec (xs.getD i [])) rr (dn + 1) (cn + 1) l' := by
                          have h9 := HEL.out
                          rw [show dn + 1 + i2 = rr.length by rw [HNr.out]; omega] at h9
                          exact h9.finish hpr.1
                        obtain ⟨l2, hIm2⟩ := hfin
                        have HIM := hide hIm2
                        clear hIm2
                        by_cases hlast : dn + 1 = k
                        · have HE := hide (HIM.out.rk (by omega) (.inl (by rw [HNr.out]; exact hlast)))
                          have t9 : (((dn : Int) + 1) == (k : Int)) = true := by simp; omega
                          go_wp2_with fail
                          go_ret
                          exact ⟨dn + 1, by simp, by rw [hlen.out]; exact HE.out, hR.below⟩
                        · have t9 : (((dn : Int) + 1) == (k : Int)) = false := by simp; omega
                          have C4 := hR.col.cell 0
                          have C4l := hR.col.lt
                          go_wp2_with fail
                          go_roundg (m - (cn + 1))
                          case measure => have := HGK.out; omega
                          case rel => exact ⟨dn + 1, cn + 1, wr.heap.size, rr, l2, by omega, by omega, by omega, by go_num, rfl, by have h9 := hR.next rfl; simpa using h9, HIM, HNr⟩
            · have HSk := hide (HI.out.skip (fun i h1 h2 => by
                have h9 := hall (i - dn) (by rw [HN.out] at h2; omega)
                rw [List.getD_eq_getElem?_getD, List.getElem?_drop, show dn + (i - dn) = i by omega, ← List.getD_eq_getElem?_getD] at h9
                exact h9))
              have C4 := hR4.col.cell 0
              have C4l := hR4.col.lt
              clear hall
              go_wp2_with fail
              go_roundg (m - (cn + 1))
              case measure => have := HGK.out; omega
              case rel => exact ⟨dn, cn + 1, w4.heap.size, rows, l, by omega, by omega, hdn, rfl, rfl, by have h9 := hR4.next rfl; simpa using h9, HSk, HN⟩
          · obtain rfl : m = cn := by omega
            have HE := hide (HI.out.rk (Nat.le_refl _) (.inr rfl))
            skip
            go_wp2_with fail
            refine wp_region_be [0, 1, 2, 3, 4, 5, 6, 7, 8, 9, 10] 11 w2.heap.size w2 (by kernel_rfl) (by kernel_rfl) (by kernel_rfl) (fun _ _ _ _ _ h => h) (Below.refl _ _) (fun wd hBe => ?_)
            repeat (first | (apply ord_tk rfl (by rfl) (by rfl) (by rfl); (focus (intro wx hSw; have r1 := (hSw.cell (p := ⟨P, 0, none⟩) hPl).trans C0.out; have r2 := (hSw.cell (p := ⟨gv, 0, none⟩) hgl).trans F1.out; go_simp; (try with_reducible rfl))); (try simp only [Act.put, List.setIfInBounds_toArray, List.set_cons_zero, List.set_cons_succ])) | (apply ord_skip rfl (by rfl) (by rfl) (fun _ => hBe); (try simp only [Act.put, List.setIfInBounds_toArray, List.set_cons_zero, List.set_cons_succ])))
            refine ord_nil ?_
            have hR3 := hR.bel hBe
            have s3 := (s0.below hBe).more hBe.size
            clear s0
            go_wp2_with fail
            go_ret
            exact ⟨dn, rfl, by rw [hlen.out]; exact HE.out, hR3.below⟩
end Go.Proofs.Ytnhgflmmfppmnaa
