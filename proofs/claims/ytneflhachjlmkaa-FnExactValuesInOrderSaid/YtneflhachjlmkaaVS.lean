
/- The walk of l11Sorted: a list in ascending order, by insertion. -/
import Derived.Test.YtneflhachjlmkaaAP
import Derived.Test.YtneflhachjlmkaaSO
import Derived.Test.YtneflhachjlmkaaGN
import Derived.Test.YtneflhachjlmkaaEa
import Derived.Test.YtneflhachjlmkaaBa
import Derived.Test.YtneflhachjlmkaaLa
import Derived.WalkLawsBesides
namespace Go.Proofs.Ytneflhachjlmkaa
open Go Go.RowKit
set_option linter.unusedSimpArgs false
set_option linter.unusedVariables false
set_option maxRecDepth 100000
/-- ts holds just xs, in ascending order. -/
def Srt (xs ts : List Int) : Prop := ts.Perm xs ∧ ts.Pairwise (· ≤ ·)
theorem Srt.nil : Srt [] [] := ⟨List.Perm.refl _, List.Pairwise.nil⟩
theorem Srt.eq {xs ts : List Int} (h : Srt xs ts) : ts = srt xs := by
  have hp : ts.Perm (srt xs) := h.1.trans (List.mergeSort_perm xs (fun x y => decide (x ≤ y))).symm
  refine hp.eq_of_pairwise (le := (· ≤ ·)) (fun a b _ _ h1 h2 => by omega) h.2 ?_
  have := List.pairwise_mergeSort (le := fun x y : Int => decide (x ≤ y)) (fun a b c h1 h2 => by simp at *; omega) (fun a b => by simp; omega) xs
  exact this.imp fun hab => by simpa using hab
theorem Srt.insert {xs ts : List Int} (h : Srt xs ts) {x : Int} {t : Nat} (ht : t ≤ ts.length) (h1 : ∀ j, j < t → gi ts j ≤ x) (h2 : t < ts.length → x < gi ts t) : Srt (xs ++ [x]) (ts.take t ++ ([x] ++ ts.drop t)) := by
  have hg : ∀ i j, i < j → j < ts.length → gi ts i ≤ gi ts j := by
    intro i j hij hj
    have := List.pairwise_iff_getElem.1 h.2 i j (by omega) hj hij
    rwa [gi_ext, gi_ext] at this
  have hlo : ∀ a ∈ ts.take t, a ≤ x := by
    intro a ha
    obtain ⟨j, hj, rfl⟩ := List.mem_iff_getElem.1 ha
    simp at hj
    rw [List.getElem_take, gi_ext]
    exact h1 j (by omega)
  have hhi : ∀ b ∈ ts.drop t, x ≤ b := by
    intro b hb
    obtain ⟨j, hj, rfl⟩ := List.mem_iff_getElem.1 hb
    simp at hj
    rw [List.getElem_drop, gi_ext]
    have a1 := h2 (by omega)
    by_cases e : j = 0
    · subst e; rw [Nat.add_zero]; omega
    · have := hg t (t + j) (by omega) (by omega)
      omega
  refine ⟨?_, ?_⟩
  · have e : ts.take t ++ ts.drop t = ts := List.take_append_drop t ts
    refine (List.perm_append_comm_assoc (ts.take t) [x] (ts.drop t)).trans ?_
    rw [e]
    exact (List.perm_append_comm (l₁ := [x]) (l₂ := ts)).trans (h.1.append_right _)
  · rw [List.pairwise_append]
    refine ⟨h.2.sublist (List.take_sublist _ _), ?_, fun a ha b hb => ?_⟩
    · rw [List.singleton_append, List.pairwise_cons]
      exact ⟨hhi, h.2.sublist (List.drop_sublist _ _)⟩
    · have a1 := hlo a ha
      rcases List.mem_append.1 hb with hb | hb
      · rw [List.mem_singleton.1 hb]; exact a1
      · have := hhi b hb; omega
theorem srt_rng {xs : List Int} (h : ∀ x ∈ xs, i64ok x) : ∀ x ∈ srt xs, i64ok x := fun x hx => h x (srt_mem.1 hx)
set_option maxHeartbeats 4000000 in
theorem l11Sorted_any (w : World) (A : Option Addr) (n c : Nat) (xs : List Int) (h : Sl w w.heap.size A n c xs) (hn : n ≤ 1048576) : Calls Try.prog 96 #[.slice A n c] w (Mk w (srt xs)) := by
  obtain rfl := h.len
  go_enter Try.func96, Try.ntmps96
  have hO0 : Ow (w.alloc (.cells #[] 2)) w.heap.size (.slice (some ⟨w.heap.size, 0, none⟩) 0 0) [] := Ow.made' (xs := []) w #[] w.heap.size 0 rfl rfl (Nat.le_refl _) rfl (by unfold maxLen; omega)
  have hB0 : Below w.heap.size w (w.alloc (.cells #[] 2)) := (Below.refl _ _).alloc (Nat.le_refl _) _
  go_wp2_with fail
  go_loopw [3, 4] (fun o i wr => ∃ (k g cap : Nat) (ts : List Int), k ≤ xs.length ∧ i = .int .i64 k ∧ o = .slice (some ⟨g, 0, none⟩) ts.length cap ∧ Hid (Srt (xs.take k) ts) ∧ Ow wr w.heap.size (.slice (some ⟨g, 0, none⟩) ts.length cap) ts ∧ Below w.heap.size w wr) (fun _ i _ => xs.length - (intOf i).toNat)
  case atStart => exact ⟨0, _, _, [], by omega, rfl, rfl, hide Srt.nil, hO0, hB0⟩
  case round =>
    clear hO0 hB0
    obtain ⟨k, g, cap, ts, hk, rfl, rfl, hS, hO, hBe⟩ := hrel
    have htl := hide (show ts.length = k by rw [hS.out.1.length_eq, List.length_take]; omega)
    have htb : ts.length ≤ 1048576 := by have := htl.out; omega
    have hcap : ts.length ≤ cap := by
      rcases hO.form with ⟨e, _⟩ | ⟨g', c', e, _, _, h3⟩
      · cases e
      · injection e with _ _ e3; omega
    have hgl := (hO.lt g rfl).2
    by_cases hlt : k < xs.length
    · obtain ⟨b, off, rfl, hb, hc⟩ := h.at_ (by omega)
      have hcw : ∀ wx, Below w.heap.size w wx → wx.cell? ⟨b, off + k, none⟩ = some (.int .i64 (gi xs k)) := fun wx hx => (hx.cell (p := ⟨b, off + k, none⟩) hb).trans (hc k hlt)
      have hts := hide (fun (t : Nat) (h1 : t ≤ ts.length) (h2 : ∀ j, j < t → gi ts j ≤ gi xs k) (h3 : t < ts.length → gi xs k < gi ts t) => by
        have h9 := hS.out.insert h1 h2 h3
        rwa [← take_gi hlt] at h9)
      have hxk := h.rng _ (gi_mem hlt)
      obtain ⟨x, ex⟩ : ∃ x, gi xs k = x := ⟨_, rfl⟩
      rw [ex] at hts hxk
      simp only [ex] at hcw
      have HCW := hide hcw
      have hTR := hide (show ∀ v ∈ ts, i64ok v from fun v hv => h.rng v (List.mem_of_mem_take (hS.out.1.mem_iff.1 hv)))
      clear hc ex hcw
      obtain ⟨w1, rfl⟩ : ∃ w1, w1 = wr := ⟨_, rfl⟩
      have hB1 := hBe
      have hs1 := hBe.size
      go_wp2_with fail
      go_loopw [5] (fun i wx => ∃ t : Nat, t ≤ ts.length ∧ i = .int .i64 t ∧ Hid (∀ j, j < t → gi ts j ≤ x) ∧ Below w1.heap.size w1 wx) (fun i _ => ts.length - (intOf i).toNat)
      case atStart => exact ⟨0, by omega, rfl, hide fun j hj => absurd hj (by omega), Below.refl _ _⟩
      case round =>
        clear hBe
        obtain ⟨t, ht, rfl, hP, hBe⟩ := hrel
        have hbx : b < wr.heap.size := by have := hBe.size; omega
        have hgx : g < wr.heap.size := Nat.lt_of_lt_of_le hgl hBe.size
        have hBE := hBe
        have cx := HCW.out wr (hB1.trans (hBe.mono hs1))
        by_cases hlx : t < ts.length
        · have ct := (hBe.cell (p := ⟨g, t, none⟩) hgl).trans (hO.cell rfl hlx)
          have t0 : 0 ≤ (t : Int) := by omega
          have t1 : (t : Int) < (ts.length : Int) := by omega
          have k0 : 0 ≤ (k : Int) := by omega
          have k1 : (k : Int) < (xs.length : Int) := by omega
          obtain ⟨y, ey⟩ : ∃ y, gi ts t = y := ⟨_, rfl⟩
          rw [ey] at ct
          have EY := hide ey
          clear ey
          by_cases hyx : y ≤ x
          · have hPn := hide (show ∀ j, j < t + 1 → gi ts j ≤ x from fun j hj => by rcases Nat.lt_succ_iff_lt_or_eq.1 hj with h | rfl; exact hP.out j h; rw [EY.out]; exact hyx)
            go_wp2_with fail
            refine wp_region_be [0, 1, 2, 3, 4, 5, 6, 7, 8, 9, 10, 11, 12, 13, 14] 15 wr.heap.size wr (by kernel_rfl) (by kernel_rfl) (by kernel_rfl) (fun _ _ _ _ _ h => h) (Below.refl _ _) (fun wd hBe => ?_)
            repeat (first | (apply ord_tk rfl (by rfl) (by rfl) (by rfl); (focus (intro wx hSw; have r1 := (hSw.cell (p := ⟨g, t, none⟩) hgx).trans ct; have r2 := (hSw.cell (p := ⟨b, off + k, none⟩) hbx).trans cx; go_simp; (try with_reducible rfl))); (try simp only [Act.put, List.setIfInBounds_toArray, List.set_cons_zero, List.set_cons_succ])) | (apply ord_skip rfl (by rfl) (by rfl) (fun _ => hBe); (try simp only [Act.put, List.setIfInBounds_toArray, List.set_cons_zero, List.set_cons_succ])))
            refine ord_nil ?_
            replace hBe := hBE.trans (hBe.mono hBE.size)
            clear ct cx hBE
            go_wp2_with fail
            go_roundw
            case rel => exact ⟨t + 1, by omega, by go_num, hPn, hBe⟩
            case measure => simp [intOf] <;> omega
          · have hN := hide (hts.out t ht hP.out (fun _ => by rw [EY.out]; omega))
            go_wp2_with fail
            refine wp_region_be [0, 1, 2, 3, 4, 5, 6, 7, 8, 9, 10, 11, 12, 13, 14] 15 wr.heap.size wr (by kernel_rfl) (by kernel_rfl) (by kernel_rfl) (fun _ _ _ _ _ h => h) (Below.refl _ _) (fun wd hBe => ?_)
            repeat (first | (apply ord_tk rfl (by rfl) (by rfl) (by rfl); (focus (intro wx hSw; have r1 := (hSw.cell (p := ⟨g, t, none⟩) hgx).trans ct; have r2 := (hSw.cell (p := ⟨b, off + k, none⟩) hbx).trans cx; go_simp; (try with_reducible rfl))); (try simp only [Act.put, List.setIfInBounds_toArray, List.set_cons_zero, List.set_cons_succ])) | (apply ord_skip rfl (by rfl) (by rfl) (fun _ => hBe); (try simp only [Act.put, List.setIfInBounds_toArray, List.set_cons_zero, List.set_cons_succ])))
            refine ord_nil ?_
            replace hBe := hBE.trans (hBe.mono hBE.size)
            clear ct cx hBE
            have hOX := hO.below hBe
            have hgX : g < wd.heap.size := Nat.lt_of_lt_of_le hgl hBe.size
            have hbX : b < wd.heap.size := by have := hBe.size; omega
            have cX := HCW.out wd (hB1.trans (hBe.mono hs1))
            have hslX : Sl wd wd.heap.size (some ⟨g, 0, none⟩) ts.length cap ts := by
              obtain ⟨A9, c9, e9, s9⟩ := hOX.sl hTR.out
              injection e9 with e1 _ e2
              rw [e1, e2]; exact s9
            have hBd := hBe
            obtain ⟨w2, rfl⟩ : ∃ w2, w2 = wd := ⟨_, rfl⟩
            have hs2 := hBd.size
            have k0' : 0 ≤ (k : Int) := by omega
            have k1' : (k : Int) < (xs.length : Int) := by omega
            have q0 : 0 ≤ ((t : Nat) : Int) := by omega
            have q1 : ((t : Nat) : Int) ≤ (ts.length : Int) := by omega
            go_wp2_with fail
            refine wp_region_ord [0, 1, 2, 3, 5, 6, 7, 4, 8, 9] 9 (Below w2.heap.size w2) (by kernel_rfl) (by kernel_rfl) (by kernel_rfl) (fun _ _ _ _ _ h => h) (Below.refl _ _).drew ?_
            have hBd2 : Below w2.heap.size w2 w2.drew := (Below.refl _ _).drew
            have hsd2 : w2.drew.heap.size = w2.heap.size := rfl
            obtain ⟨w4, hw4⟩ : ∃ w4, w2.drew = w4 := ⟨_, rfl⟩
            rw [hw4] at hBd2 hsd2 ⊢
            have HSD := hide hsd2
            clear hw4 hsd2
            repeat (first | (apply ord_tk rfl (by rfl) (by rfl) (by rfl); (focus (intro wx hSw; have r2 := (hSw.cell (p := ⟨b, off + k, none⟩) hbX).trans cX; go_simp; (try with_reducible rfl))); (try simp only [Act.put, List.setIfInBounds_toArray, List.set_cons_zero, List.set_cons_succ])) | (apply ord_skip rfl (by rfl) (by rfl) (fun _ => hBe); (try simp only [Act.put, List.setIfInBounds_toArray, List.set_cons_zero, List.set_cons_succ])))
            refine ord_do rfl (by rfl) (by rfl) (fun K hK => ?_)
            go_simp
            obtain ⟨wa, H, hHe, hwa, hBa, hsub, bL, hHB⟩ := be_alloc hBd2 2 #[.int .i64 x]
            have hOL : Ow wa w2.heap.size (.slice (some ⟨H, 0, none⟩) 1 1) [x] := by rw [← hwa]; exact Ow.made' (xs := [x]) _ _ H 1 hHe rfl (by have := HSD.out; omega) rfl (by unfold maxLen; omega)
            have hTl := (hslX.below (w' := wa) (hBa)).tailC t ht
            rw [Nat.zero_add] at hTl
            rw [hwa, hHe]
            refine hK.out _ _ (fun _ => hBa) ?_
            (try simp only [Act.put, List.setIfInBounds_toArray, List.set_cons_zero, List.set_cons_succ])
            clear hK K
            refine ord_do rfl (by rfl) (by rfl) (fun K hK => ?_)
            refine wp_app _ _ _ (by rfl) w2.heap.size _ [x] (by rfl) hOL w2.heap.size _ _ _ (ts.drop t) (by rfl) hTl (by simp; omega) hBa.size ?_
            intro v6 w6 hA6
            have hB6 := hBa.trans (hA6.below hOL hBa.size)
            refine hK.out _ _ (fun _ => hB6) ?_
            (try simp only [Act.put, List.setIfInBounds_toArray, List.set_cons_zero, List.set_cons_succ])
            clear hK K
            refine ord_do rfl (by rfl) (by rfl) (fun K hK => ?_)
            go_simp
            refine hK.out _ _ (fun h => absurd h (by omega)) ?_
            (try simp only [Act.put, List.setIfInBounds_toArray, List.set_cons_zero, List.set_cons_succ])
            clear hK K
            refine ord_nil ?_
            have hL2 : ∀ v ∈ ([x] ++ ts.drop t), i64ok v := by
              intro v hv
              rcases List.mem_append.1 hv with hv | hv
              · rw [List.mem_singleton.1 hv]; exact hxk
              · exact hTR.out v (List.mem_of_mem_drop hv)
            obtain ⟨A6, c6, rfl, s6⟩ := hA6.own.sl hL2
            obtain ⟨n6, hn6⟩ : ∃ n, ([x] ++ ts.drop t).length = n := ⟨_, rfl⟩
            have hn6' : n6 ≤ 1048577 := by rw [← hn6]; simp; omega
            rw [hn6] at s6 ⊢
            have hOe : Ow (w6.alloc (.cells #[] 2)) w6.heap.size (.slice (some ⟨w6.heap.size, 0, none⟩) 0 0) [] := Ow.made' (xs := []) w6 #[] w6.heap.size 0 rfl rfl (Nat.le_refl _) rfl (by unfold maxLen; omega)
            have hsH := ((hslX.below hB6).alloc hB6.size (.cells #[] 2)).headC t ht
            have hB66 : Below w6.heap.size w6 (w6.alloc (.cells #[] 2)) := (Below.refl _ _).alloc (Nat.le_refl _) _
            clear hA6 hTl hOL hn6 hBa hBd2
            go_wp2_with (first
              | (at_builtin; refine list_app _ rfl _ _ rfl w6.heap.size _ [] rfl hOe w2.heap.size _ _ _ (ts.take t) rfl hsH (by simp; omega) (by simp) ?_; intro v7 w7 hA7; have hB7 := hB66.trans (hA7.below hOe (by simp)); have hO7 := hA7.own; have s7 := s6.below hB7)
              | (at_builtin; refine list_app _ rfl _ _ rfl w6.heap.size _ _ rfl hO7 w6.heap.size _ _ _ _ rfl s7 (by simp; omega) hB7.size ?_; intro v8 w8 hA8; have hB8 := hB7.trans (hA8.below hO7 hB7.size); have hO8 := hA8.own)
              | go_in)
            rw [List.nil_append] at hO8
            rcases hO8.form with ⟨_, e9⟩ | ⟨g8, cap8, rfl, hg8, _, _⟩
            · simp at e9
            have hs6 := hB6.size
            have hBz := (hB1.trans (hBd.mono hs1)).trans ((hB6.mono (Nat.le_trans hs1 hs2)).trans (hB8.mono (Nat.le_trans (Nat.le_trans hs1 hs2) hs6)))
            have hO9 := hO8.less (show w.heap.size ≤ w6.heap.size by omega)
            clear hB7 hA7 hO7 s7 hA8 hB8 hO8
            go_roundw
            case rel => exact ⟨k + 1, g8, cap8, _, by omega, by go_num, rfl, hN, hO9, hBz⟩
            case measure => simp [intOf] <;> omega
        · have hN := hide (hts.out t ht hP.out (fun h => absurd h hlx))
          go_wp2_with fail
          refine wp_region_be [0, 1, 2, 3, 4, 5, 6, 7, 8, 9, 10, 11, 12, 13, 14] 15 wr.heap.size wr (by kernel_rfl) (by kernel_rfl) (by kernel_rfl) (fun _ _ _ _ _ h => h) (Below.refl _ _) (fun wd hBe => ?_)
          repeat (first | (apply ord_tk rfl (by rfl) (by rfl) (by rfl); (focus (intro wx hSw; skip; go_simp; (try with_reducible rfl))); (try simp only [Act.put, List.setIfInBounds_toArray, List.set_cons_zero, List.set_cons_succ])) | (apply ord_skip rfl (by rfl) (by rfl) (fun _ => hBe); (try simp only [Act.put, List.setIfInBounds_toArray, List.set_cons_zero, List.set_cons_succ])))
          refine ord_nil ?_
          replace hBe := hBE.trans (hBe.mono hBE.size)
          clear cx hBE
          have hOX := hO.below hBe
          have hgX : g < wd.heap.size := Nat.lt_of_lt_of_le hgl hBe.size
          have hbX : b < wd.heap.size := by have := hBe.size; omega
          have cX := HCW.out wd (hB1.trans (hBe.mono hs1))
          have hslX : Sl wd wd.heap.size (some ⟨g, 0, none⟩) ts.length cap ts := by
            obtain ⟨A9, c9, e9, s9⟩ := hOX.sl hTR.out
            injection e9 with e1 _ e2
            rw [e1, e2]; exact s9
          have hBd := hBe
          obtain ⟨w2, rfl⟩ : ∃ w2, w2 = wd := ⟨_, rfl⟩
          have hs2 := hBd.size
          have k0' : 0 ≤ (k : Int) := by omega
          have k1' : (k : Int) < (xs.length : Int) := by omega
          have q0 : 0 ≤ ((t : Nat) : Int) := by omega
          have q1 : ((t : Nat) : Int) ≤ (ts.length : Int) := by omega
          go_wp2_with fail
          refine wp_region_ord [0, 1, 2, 3, 5, 6, 7, 4, 8, 9] 9 (Below w2.heap.size w2) (by kernel_rfl) (by kernel_rfl) (by kernel_rfl) (fun _ _ _ _ _ h => h) (Below.refl _ _).drew ?_
          have hBd2 : Below w2.heap.size w2 w2.drew := (Below.refl _ _).drew
          have hsd2 : w2.drew.heap.size = w2.heap.size := rfl
          obtain ⟨w4, hw4⟩ : ∃ w4, w2.drew = w4 := ⟨_, rfl⟩
          rw [hw4] at hBd2 hsd2 ⊢
          have HSD := hide hsd2
          clear hw4 hsd2
          repeat (first | (apply ord_tk rfl (by rfl) (by rfl) (by rfl); (focus (intro wx hSw; have r2 := (hSw.cell (p := ⟨b, off + k, none⟩) hbX).trans cX; go_simp; (try with_reducible rfl))); (try simp only [Act.put, List.setIfInBounds_toArray, List.set_cons_zero, List.set_cons_succ])) | (apply ord_skip rfl (by rfl) (by rfl) (fun _ => hBe); (try simp only [Act.put, List.setIfInBounds_toArray, List.set_cons_zero, List.set_cons_succ])))
          refine ord_do rfl (by rfl) (by rfl) (fun K hK => ?_)
          go_simp
          obtain ⟨wa, H, hHe, hwa, hBa, hsub, bL, hHB⟩ := be_alloc hBd2 2 #[.int .i64 x]
          have hOL : Ow wa w2.heap.size (.slice (some ⟨H, 0, none⟩) 1 1) [x] := by rw [← hwa]; exact Ow.made' (xs := [x]) _ _ H 1 hHe rfl (by have := HSD.out; omega) rfl (by unfold maxLen; omega)
          have hTl := (hslX.below (w' := wa) (hBa)).tailC t ht
          rw [Nat.zero_add] at hTl
          rw [hwa, hHe]
          refine hK.out _ _ (fun _ => hBa) ?_
          (try simp only [Act.put, List.setIfInBounds_toArray, List.set_cons_zero, List.set_cons_succ])
          clear hK K
          refine ord_do rfl (by rfl) (by rfl) (fun K hK => ?_)
          refine wp_app _ _ _ (by rfl) w2.heap.size _ [x] (by rfl) hOL w2.heap.size _ _ _ (ts.drop t) (by rfl) hTl (by simp; omega) hBa.size ?_
          intro v6 w6 hA6
          have hB6 := hBa.trans (hA6.below hOL hBa.size)
          refine hK.out _ _ (fun _ => hB6) ?_
          (try simp only [Act.put, List.setIfInBounds_toArray, List.set_cons_zero, List.set_cons_succ])
          clear hK K
          refine ord_do rfl (by rfl) (by rfl) (fun K hK => ?_)
          go_simp
          refine hK.out _ _ (fun h => absurd h (by omega)) ?_
          (try simp only [Act.put, List.setIfInBounds_toArray, List.set_cons_zero, List.set_cons_succ])
          clear hK K
          refine ord_nil ?_
          have hL2 : ∀ v ∈ ([x] ++ ts.drop t), i64ok v := by
            intro v hv
            rcases List.mem_append.1 hv with hv | hv
            · rw [List.mem_singleton.1 hv]; exact hxk
            · exact hTR.out v (List.mem_of_mem_drop hv)
          obtain ⟨A6, c6, rfl, s6⟩ := hA6.own.sl hL2
          obtain ⟨n6, hn6⟩ : ∃ n, ([x] ++ ts.drop t).length = n := ⟨_, rfl⟩
          have hn6' : n6 ≤ 1048577 := by rw [← hn6]; simp; omega
          rw [hn6] at s6 ⊢
          have hOe : Ow (w6.alloc (.cells #[] 2)) w6.heap.size (.slice (some ⟨w6.heap.size, 0, none⟩) 0 0) [] := Ow.made' (xs := []) w6 #[] w6.heap.size 0 rfl rfl (Nat.le_refl _) rfl (by unfold maxLen; omega)
          have hsH := ((hslX.below hB6).alloc hB6.size (.cells #[] 2)).headC t ht
          have hB66 : Below w6.heap.size w6 (w6.alloc (.cells #[] 2)) := (Below.refl _ _).alloc (Nat.le_refl _) _
          clear hA6 hTl hOL hn6 hBa hBd2
          go_wp2_with (first
            | (at_builtin; refine list_app _ rfl _ _ rfl w6.heap.size _ [] rfl hOe w2.heap.size _ _ _ (ts.take t) rfl hsH (by simp; omega) (by simp) ?_; intro v7 w7 hA7; have hB7 := hB66.trans (hA7.below hOe (by simp)); have hO7 := hA7.own; have s7 := s6.below hB7)
            | (at_builtin; refine list_app _ rfl _ _ rfl w6.heap.size _ _ rfl hO7 w6.heap.size _ _ _ _ rfl s7 (by simp; omega) hB7.size ?_; intro v8 w8 hA8; have hB8 := hB7.trans (hA8.below hO7 hB7.size); have hO8 := hA8.own)
            | go_in)
          rw [List.nil_append] at hO8
          rcases hO8.form with ⟨_, e9⟩ | ⟨g8, cap8, rfl, hg8, _, _⟩
          · simp at e9
          have hs6 := hB6.size
          have hBz := (hB1.trans (hBd.mono hs1)).trans ((hB6.mono (Nat.le_trans hs1 hs2)).trans (hB8.mono (Nat.le_trans (Nat.le_trans hs1 hs2) hs6)))
          have hO9 := hO8.less (show w.heap.size ≤ w6.heap.size by omega)
          clear hB7 hA7 hO7 s7 hA8 hB8 hO8
          go_roundw
          case rel => exact ⟨k + 1, g8, cap8, _, by omega, by go_num, rfl, hN, hO9, hBz⟩
          case measure => simp [intOf] <;> omega
    · obtain rfl : k = xs.length := by omega
      have hE := hide (show ts = srt xs by have := hS.out.eq; rwa [List.take_length] at this)
      go_wp2_with fail
      go_ret
      exact ⟨_, rfl, by rw [← hE.out]; exact hO, hBe⟩
end Go.Proofs.Ytneflhachjlmkaa
