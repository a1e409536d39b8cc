
/- The laws of CountIsometries and IsometryOf. -/
import Derived.Test.YtkekgipeagchcaaIM10
namespace Go.Proofs.Ytkekgipeagchcaa
open Go Go.RowKit Grp
set_option linter.unusedSimpArgs false
set_option linter.unusedVariables false
section
variable {x y : metric_T}
theorem both_no1 (h : isM x.1 x.2.1 x.2.2 = false) : bothM x y = false := by unfold bothM; rw [h]; rfl
theorem both_no2 (h : isM y.1 y.2.1 y.2.2 = false) : bothM x y = false := by unfold bothM; rw [h, Bool.and_false]
theorem both_yes (h : isM x.1 x.2.1 x.2.2 = true) (h' : isM y.1 y.2.1 y.2.2 = true) : bothM x y = true := by unfold bothM; rw [h, h']; rfl
theorem ci_no (h : bothM x y = false) : ciC x y = 0 ∧ ciK x y = 1 := by unfold ciC ciK; rw [h]; exact ⟨rfl, rfl⟩
theorem ci_yes (h : bothM x y = true) : ciC x y = ((two x y).all.length : Nat) ∧ ciK x y = 0 := by unfold ciC ciK; rw [if_pos h, if_pos h]; exact ⟨rfl, rfl⟩
theorem io_no (h : bothM x y = false) : ioL x y = [] ∧ ioK x y = 1 := by unfold ioL ioK; rw [h]; exact ⟨rfl, rfl⟩
theorem io_yes (h : bothM x y = true) : ((two x y).all = [] → ioL x y = [] ∧ ioK x y = 4) ∧ (∀ a r, (two x y).all = a :: r → ioL x y = a ∧ ioK x y = 0) := by
  unfold ioL ioK
  rw [if_pos h, if_pos h]
  refine ⟨fun e => ?_, fun a r e => ?_⟩
  · rw [e, if_pos rfl]; exact ⟨rfl, rfl⟩
  · rw [e, if_neg (by simp)]; exact ⟨rfl, rfl⟩
theorem io_len (a : List Int) (r : List (List Int)) (hM : isM x.1 x.2.1 x.2.2 = true) (e : (two x y).all = a :: r) : a.length = x.1.length := by
  unfold Two.all at e
  split at e
  · exact (two x y).isos_len (two x y).os.length [] (by simp) a (by rw [e]; simp)
  · cases e
end
theorem specCI_c (w : World) (v : Value) (x : metric_T) (h : metric_R w w.heap.size v x) (hs : metric_Sh x) (v' : Value) (y : metric_T) (h' : metric_R w w.heap.size v' y) (hs' : metric_Sh y) :
    Calls Try.prog 7 #[v, v'] w (Re w (.tuple #[.int .i64 (ciC x y), .int .i64 (ciK x y)])) := by
  obtain ⟨A, n, c, D, m, e, rfl, h1, h2, h3⟩ := h
  obtain ⟨A', n', c', D', m', e', rfl, k1, k2, k3⟩ := h'
  have hs2 : x.1.length + x.2.2.length ≤ 1048576 := hs
  have hs3 : y.1.length + y.2.2.length ≤ 1048576 := hs'
  have l1 := h1.len
  have l2 := h2.len
  have l3 := k1.len
  have l4 := k2.len
  exact specCI_T w (two x y) _ _ A n c D m e A' n' c' D' m' e' h1 h2 k1 k2 (by omega) (by omega) (by omega) (by omega) (fun hh => ci_no (both_no1 hh)) (fun hh => ci_no (both_no2 hh)) (fun hh hk => ci_yes (both_yes hh hk))
theorem implCI_c (w : World) (v : Value) (x : metric_T) (h : metric_R w w.heap.size v x) (hs : metric_Sh x) (v' : Value) (y : metric_T) (h' : metric_R w w.heap.size v' y) (hs' : metric_Sh y) :
    Calls Try.prog 9 #[v, v'] w (Re w (.tuple #[.int .i64 (ciC x y), .int .i64 (ciK x y)])) := by
  obtain ⟨A, n, c, D, m, e, rfl, h1, h2, h3⟩ := h
  obtain ⟨A', n', c', D', m', e', rfl, k1, k2, k3⟩ := h'
  have hs2 : x.1.length + x.2.2.length ≤ 1048576 := hs
  have hs3 : y.1.length + y.2.2.length ≤ 1048576 := hs'
  have l1 := h1.len
  have l2 := h2.len
  have l3 := k1.len
  have l4 := k2.len
  exact implCI_T w (two x y) _ _ A n c D m e A' n' c' D' m' e' h1 h2 k1 k2 (by omega) (by omega) (by omega) (by omega) (fun hh => ci_no (both_no1 hh)) (fun hh => ci_no (both_no2 hh)) (fun hh hk => ci_yes (both_yes hh hk))
theorem specIO_c (w : World) (v : Value) (x : metric_T) (h : metric_R w w.heap.size v x) (hs : metric_Sh x) (v' : Value) (y : metric_T) (h' : metric_R w w.heap.size v' y) (hs' : metric_Sh y) :
    Calls Try.prog 11 #[v, v'] w (MkEC ints_E w (ioL x y) (ioK x y)) := by
  obtain ⟨A, n, c, D, m, e, rfl, h1, h2, h3⟩ := h
  obtain ⟨A', n', c', D', m', e', rfl, k1, k2, k3⟩ := h'
  have hs2 : x.1.length + x.2.2.length ≤ 1048576 := hs
  have hs3 : y.1.length + y.2.2.length ≤ 1048576 := hs'
  have l1 := h1.len
  have l2 := h2.len
  have l3 := k1.len
  have l4 := k2.len
  exact specIO_T w (two x y) _ _ A n c D m e A' n' c' D' m' e' h1 h2 k1 k2 (by omega) (by omega) (by omega) (by omega) (fun hh => io_no (both_no1 hh)) (fun hh => io_no (both_no2 hh)) (fun hh hk => io_yes (both_yes hh hk))
theorem implIO_c (w : World) (v : Value) (x : metric_T) (h : metric_R w w.heap.size v x) (hs : metric_Sh x) (v' : Value) (y : metric_T) (h' : metric_R w w.heap.size v' y) (hs' : metric_Sh y) :
    Calls Try.prog 12 #[v, v'] w (MkEC ints_E w (ioL x y) (ioK x y)) := by
  obtain ⟨A, n, c, D, m, e, rfl, h1, h2, h3⟩ := h
  obtain ⟨A', n', c', D', m', e', rfl, k1, k2, k3⟩ := h'
  have hs2 : x.1.length + x.2.2.length ≤ 1048576 := hs
  have hs3 : y.1.length + y.2.2.length ≤ 1048576 := hs'
  have l1 := h1.len
  have l2 := h2.len
  have l3 := k1.len
  have l4 := k2.len
  exact implIO_T w (two x y) _ _ A n c D m e A' n' c' D' m' e' h1 h2 k1 k2 (by omega) (by omega) (by omega) (by omega) (fun hh => io_no (both_no1 hh)) (fun hh => io_no (both_no2 hh)) (fun hh hk => io_yes (both_yes hh hk)) (fun a r hm he hn => by have h9 := io_len a r hm he; rw [hn] at h9; have h8 := (isM_iff.1 hm).ok.g.l1; simp at h9; have h7 : (two x y).os.length = x.1.length := rfl; rw [← h9] at h7; omega)
theorem io_sh (x y : metric_T) (hs : metric_tot x ≤ 1048576) : ints_tot (ioL x y) ≤ 1048576 := by
  unfold ints_tot
  cases hb : bothM x y with
  | false => rw [(io_no hb).1]; simp
  | true =>
    have hm : isM x.1 x.2.1 x.2.2 = true := by unfold bothM at hb; rw [Bool.and_eq_true] at hb; exact hb.1
    cases he : (two x y).all with
    | nil => rw [((io_yes hb).1 he).1]; simp
    | cons a r =>
      rw [((io_yes hb).2 a r he).1, io_len a r hm he]
      unfold metric_tot at hs; omega
set_option maxHeartbeats 8000000 in
set_option maxRecDepth 100000 in
theorem law_CountIsometries {w : World} (v0 : Value) (x0 : metric_T) (HA0 : metric_R w w.heap.size v0 x0) (HB0 : metric_Big x0) (v1 : Value) (x1 : metric_T) (HA1 : metric_R w w.heap.size v1 x1) (HB1 : metric_Big x1) : Calls Try.prog 3 #[v0, v1] w (Re w (.bool true)) := by
  obtain ⟨A0, n0, c0, z0, D0, m0, e0, rfl, hf⟩ := metric_form HA0
  clear hf
  obtain ⟨A1, n1, c1, z1, D1, m1, e1, rfl, hf⟩ := metric_form HA1
  clear hf
  by_cases q0 : (1048576 : Int) - (metric_tot x0 : Int) < 0
  · have HZ0 := hide (fun (W : World) (h : Below w.heap.size w W) => metric_sz W _ x0 1048576 (metric_keep HA0 h h.size) HB0 (by omega) (by omega))
    rw [szI_no q0] at HZ0
    go_enter Try.func3, Try.ntmps3
    go_wp2_with fail
    obtain ⟨W, hW⟩ : ∃ W, (w.alloc (.cells #[.slice A0 n0 c0, .int .i64 z0, .slice D0 m0 e0] 24)).alloc (.cells #[.slice A1 n1 c1, .int .i64 z1, .slice D1 m1 e1] 24) = W := ⟨_, rfl⟩
    have kw : Below w.heap.size w W := by rw [← hW]; exact (by repeat (first | assumption | exact Below.refl _ _ | apply below_drewN | apply Below.drew | apply Below.alloc | apply Below.setCell | omega | (focus (simp; done)) | (focus (simp; omega))))
    have bA0 : Blk W (w.heap.size) 24 #[.slice A0 n0 c0, .int .i64 z0, .slice D0 m0 e0] := by rw [← hW]; exact (Blk.new' _ _ _ _ (by simp)).alloc _
    have sA0 : w.heap.size < W.heap.size := bA0.lt
    have bA1 : Blk W (w.heap.size + 1) 24 #[.slice A1 n1 c1, .int .i64 z1, .slice D1 m1 e1] := by rw [← hW]; exact (Blk.new' _ _ _ _ (by simp))
    have sA1 : w.heap.size + 1 < W.heap.size := bA1.lt
    rw [hW]
    clear hW
    refine (HZ0.out _ kw).mono ?_
    rintro e ws0 ⟨rfl, hb⟩
    replace kw := kw.trans (hb.mono kw.size)
    replace bA0 := bA0.all hb
    replace sA0 := Nat.lt_of_lt_of_le sA0 hb.size
    replace bA1 := bA1.all hb
    replace sA1 := Nat.lt_of_lt_of_le sA1 hb.size
    clear hb
    have bA0c0 := bA0.cell 0
    have bA0c1 := bA0.cell 1
    have bA0c2 := bA0.cell 2
    have bA1c0 := bA1.cell 0
    have bA1c1 := bA1.cell 1
    have bA1c2 := bA1.cell 2
    go_wp2_with fail
    clear bA0c0 bA0c1 bA0c2 bA1c0 bA1c1 bA1c2
    go_ret
    exact ⟨rfl, kw⟩
  · have HZ0 := hide (fun (W : World) (h : Below w.heap.size w W) => metric_sz W _ x0 1048576 (metric_keep HA0 h h.size) HB0 (by omega) (by omega))
    rw [szI_ok q0] at HZ0
    have HS0 : metric_tot x0 ≤ 1048576 := by omega
    obtain ⟨l1, el1⟩ : ∃ l, (1048576 : Int) - (metric_tot x0 : Int) = l := ⟨_, rfl⟩
    have bl1a : 0 ≤ l1 := by omega
    have bl1b : l1 ≤ 1048576 := by omega
    rw [el1] at HZ0
    clear el1 q0
    by_cases q1 : (l1 : Int) - (metric_tot x1 : Int) < 0
    · have HZ1 := hide (fun (W : World) (h : Below w.heap.size w W) => metric_sz W _ x1 l1 (metric_keep HA1 h h.size) HB1 (by omega) (by omega))
      rw [szI_no q1] at HZ1
      go_enter Try.func3, Try.ntmps3
      go_wp2_with fail
      obtain ⟨W, hW⟩ : ∃ W, (w.alloc (.cells #[.slice A0 n0 c0, .int .i64 z0, .slice D0 m0 e0] 24)).alloc (.cells #[.slice A1 n1 c1, .int .i64 z1, .slice D1 m1 e1] 24) = W := ⟨_, rfl⟩
      have kw : Below w.heap.size w W := by rw [← hW]; exact (by repeat (first | assumption | exact Below.refl _ _ | apply below_drewN | apply Below.drew | apply Below.alloc | apply Below.setCell | omega | (focus (simp; done)) | (focus (simp; omega))))
      have bA0 : Blk W (w.heap.size) 24 #[.slice A0 n0 c0, .int .i64 z0, .slice D0 m0 e0] := by rw [← hW]; exact (Blk.new' _ _ _ _ (by simp)).alloc _
      have sA0 : w.heap.size < W.heap.size := bA0.lt
      have bA1 : Blk W (w.heap.size + 1) 24 #[.slice A1 n1 c1, .int .i64 z1, .slice D1 m1 e1] := by rw [← hW]; exact (Blk.new' _ _ _ _ (by simp))
      have sA1 : w.heap.size + 1 < W.heap.size := bA1.lt
      rw [hW]
      clear hW
      refine (HZ0.out _ kw).mono ?_
      rintro e ws0 ⟨rfl, hb⟩
      replace kw := kw.trans (hb.mono kw.size)
      replace bA0 := bA0.all hb
      replace sA0 := Nat.lt_of_lt_of_le sA0 hb.size
      replace bA1 := bA1.all hb
      replace sA1 := Nat.lt_of_lt_of_le sA1 hb.size
      clear hb
      have bA0c0 := bA0.cell 0
      have bA0c1 := bA0.cell 1
      have bA0c2 := bA0.cell 2
      have bA1c0 := bA1.cell 0
      have bA1c1 := bA1.cell 1
      have bA1c2 := bA1.cell 2
      go_wp2_with fail
      clear bA0c0 bA0c1 bA0c2 bA1c0 bA1c1 bA1c2
      refine (HZ1.out _ kw).mono ?_
      rintro e ws1 ⟨rfl, hb⟩
      replace kw := kw.trans (hb.mono kw.size)
      replace bA0 := bA0.all hb
      replace sA0 := Nat.lt_of_lt_of_le sA0 hb.size
      replace bA1 := bA1.all hb
      replace sA1 := Nat.lt_of_lt_of_le sA1 hb.size
      clear hb
      have bA0c0 := bA0.cell 0
      have bA0c1 := bA0.cell 1
      have bA0c2 := bA0.cell 2
      have bA1c0 := bA1.cell 0
      have bA1c1 := bA1.cell 1
      have bA1c2 := bA1.cell 2
      go_wp2_with fail
      clear bA0c0 bA0c1 bA0c2 bA1c0 bA1c1 bA1c2
      go_ret
      exact ⟨rfl, kw⟩
    · have HZ1 := hide (fun (W : World) (h : Below w.heap.size w W) => metric_sz W _ x1 l1 (metric_keep HA1 h h.size) HB1 (by omega) (by omega))
      rw [szI_ok q1] at HZ1
      have HS1 : metric_tot x1 ≤ 1048576 := by omega
      obtain ⟨l2, el2⟩ : ∃ l, (l1 : Int) - (metric_tot x1 : Int) = l := ⟨_, rfl⟩
      have bl2a : 0 ≤ l2 := by omega
      have bl2b : l2 ≤ 1048576 := by omega
      rw [el2] at HZ1
      clear el2 q1
      have SH0 := metric_sh HS0
      have SL0 := metric_sumle x0
      have SH1 := metric_sh HS1
      have SL1 := metric_sumle x1
      obtain ⟨y0, hy0⟩ : ∃ y : Int, ciC x0 x1 = y := ⟨_, rfl⟩
      have HY0 := hide hy0
      clear hy0
      obtain ⟨y1, hy1⟩ : ∃ y : Int, ciK x0 x1 = y := ⟨_, rfl⟩
      have HY1 := hide hy1
      clear hy1
      go_enter Try.func3, Try.ntmps3
      go_wp2_with fail
      obtain ⟨W, hW⟩ : ∃ W, (w.alloc (.cells #[.slice A0 n0 c0, .int .i64 z0, .slice D0 m0 e0] 24)).alloc (.cells #[.slice A1 n1 c1, .int .i64 z1, .slice D1 m1 e1] 24) = W := ⟨_, rfl⟩
      have kw : Below w.heap.size w W := by rw [← hW]; exact (by repeat (first | assumption | exact Below.refl _ _ | apply below_drewN | apply Below.drew | apply Below.alloc | apply Below.setCell | omega | (focus (simp; done)) | (focus (simp; omega))))
      have bA0 : Blk W (w.heap.size) 24 #[.slice A0 n0 c0, .int .i64 z0, .slice D0 m0 e0] := by rw [← hW]; exact (Blk.new' _ _ _ _ (by simp)).alloc _
      have sA0 : w.heap.size < W.heap.size := bA0.lt
      have bA1 : Blk W (w.heap.size + 1) 24 #[.slice A1 n1 c1, .int .i64 z1, .slice D1 m1 e1] := by rw [← hW]; exact (Blk.new' _ _ _ _ (by simp))
      have sA1 : w.heap.size + 1 < W.heap.size := bA1.lt
      rw [hW]
      clear hW
      refine (HZ0.out _ kw).mono ?_
      rintro e ws0 ⟨rfl, hb⟩
      replace kw := kw.trans (hb.mono kw.size)
      replace bA0 := bA0.all hb
      replace sA0 := Nat.lt_of_lt_of_le sA0 hb.size
      replace bA1 := bA1.all hb
      replace sA1 := Nat.lt_of_lt_of_le sA1 hb.size
      clear hb
      have bA0c0 := bA0.cell 0
      have bA0c1 := bA0.cell 1
      have bA0c2 := bA0.cell 2
      have bA1c0 := bA1.cell 0
      have bA1c1 := bA1.cell 1
      have bA1c2 := bA1.cell 2
      go_wp2_with fail
      clear bA0c0 bA0c1 bA0c2 bA1c0 bA1c1 bA1c2
      refine (HZ1.out _ kw).mono ?_
      rintro e ws1 ⟨rfl, hb⟩
      replace kw := kw.trans (hb.mono kw.size)
      replace bA0 := bA0.all hb
      replace sA0 := Nat.lt_of_lt_of_le sA0 hb.size
      replace bA1 := bA1.all hb
      replace sA1 := Nat.lt_of_lt_of_le sA1 hb.size
      clear hb
      have bA0c0 := bA0.cell 0
      have bA0c1 := bA0.cell 1
      have bA0c2 := bA0.cell 2
      have bA1c0 := bA1.cell 0
      have bA1c1 := bA1.cell 1
      have bA1c2 := bA1.cell 2
      go_wp2_with fail
      clear bA0c0 bA0c1 bA0c2 bA1c0 bA1c1 bA1c2
      have HAl0 := bA0.lt
      have rA0c0 := bA0.cell 0
      have rA0c1 := bA0.cell 1
      have rA0c2 := bA0.cell 2
      have HAl1 := bA1.lt
      have rA1c0 := bA1.cell 0
      have rA1c1 := bA1.cell 1
      have rA1c2 := bA1.cell 2
      refine wp_region_be [0, 2, 1, 3, 4, 5, 6, 7, 8, 9] 9 ws1.heap.size ws1 (by kernel_rfl) (by kernel_rfl) (by kernel_rfl) (fun _ _ _ _ _ h => h) (Below.refl _ _) (fun wd hBe => ?_)
      repeat (first | (apply ord_tk rfl (by rfl) (by rfl) (by rfl); (focus (intro wx hSw; have r00 := (hSw.cell (p := ⟨w.heap.size, 0, none⟩) HAl0).trans rA0c0; have r01 := (hSw.cell (p := ⟨w.heap.size, 1, none⟩) HAl0).trans rA0c1; have r02 := (hSw.cell (p := ⟨w.heap.size, 2, none⟩) HAl0).trans rA0c2; have r10 := (hSw.cell (p := ⟨w.heap.size + 1, 0, none⟩) HAl1).trans rA1c0; have r11 := (hSw.cell (p := ⟨w.heap.size + 1, 1, none⟩) HAl1).trans rA1c1; have r12 := (hSw.cell (p := ⟨w.heap.size + 1, 2, none⟩) HAl1).trans rA1c2; go_simp; (try with_reducible rfl))); (try simp only [Act.put, List.setIfInBounds_toArray, List.set_cons_zero, List.set_cons_succ])) | (apply ord_skip rfl (by rfl) (by rfl) (fun _ => hBe); (try simp only [Act.put, List.setIfInBounds_toArray, List.set_cons_zero, List.set_cons_succ])))
      refine ord_do rfl (by rfl) (by rfl) (fun K hK => ?_)
      go_simp
      have kq := kw.trans (hBe.mono kw.size)
      refine (metric_to _ _ x0 (metric_keep HA0 kq kq.size) SH0).mono ?_
      rintro e t1 ⟨u, rfl, he, hb⟩
      obtain ⟨Aw0, nw0, cw0, zw0, Dw0, mw0, ew0, rfl, hf⟩ := metric_form (metric_rd he)
      clear hf
      replace hBe := hBe.trans (hb.mono hBe.size)
      have Eqw0 := he
      clear he hb kq
      refine hK.out _ _ (fun _ => hBe) ?_
      (try simp only [Act.put, List.setIfInBounds_toArray, List.set_cons_zero, List.set_cons_succ])
      clear hK K
      repeat (first | (apply ord_tk rfl (by rfl) (by rfl) (by rfl); (focus (intro wx hSw; have r00 := (hSw.cell (p := ⟨w.heap.size, 0, none⟩) HAl0).trans rA0c0; have r01 := (hSw.cell (p := ⟨w.heap.size, 1, none⟩) HAl0).trans rA0c1; have r02 := (hSw.cell (p := ⟨w.heap.size, 2, none⟩) HAl0).trans rA0c2; have r10 := (hSw.cell (p := ⟨w.heap.size + 1, 0, none⟩) HAl1).trans rA1c0; have r11 := (hSw.cell (p := ⟨w.heap.size + 1, 1, none⟩) HAl1).trans rA1c1; have r12 := (hSw.cell (p := ⟨w.heap.size + 1, 2, none⟩) HAl1).trans rA1c2; go_simp; (try with_reducible rfl))); (try simp only [Act.put, List.setIfInBounds_toArray, List.set_cons_zero, List.set_cons_succ])) | (apply ord_skip rfl (by rfl) (by rfl) (fun _ => hBe); (try simp only [Act.put, List.setIfInBounds_toArray, List.set_cons_zero, List.set_cons_succ])))
      refine ord_do rfl (by rfl) (by rfl) (fun K hK => ?_)
      go_simp
      have kq := kw.trans (hBe.mono kw.size)
      refine (metric_to _ _ x1 (metric_keep HA1 kq kq.size) SH1).mono ?_
      rintro e t2 ⟨u, rfl, he, hb⟩
      obtain ⟨Aw1, nw1, cw1, zw1, Dw1, mw1, ew1, rfl, hf⟩ := metric_form (metric_rd he)
      clear hf
      replace Eqw0 := metric_below Eqw0 hb
      replace hBe := hBe.trans (hb.mono hBe.size)
      have Eqw1 := he
      clear he hb kq
      refine hK.out _ _ (fun _ => hBe) ?_
      (try simp only [Act.put, List.setIfInBounds_toArray, List.set_cons_zero, List.set_cons_succ])
      clear hK K
      repeat (first | (apply ord_tk rfl (by rfl) (by rfl) (by rfl); (focus (intro wx hSw; have r00 := (hSw.cell (p := ⟨w.heap.size, 0, none⟩) HAl0).trans rA0c0; have r01 := (hSw.cell (p := ⟨w.heap.size, 1, none⟩) HAl0).trans rA0c1; have r02 := (hSw.cell (p := ⟨w.heap.size, 2, none⟩) HAl0).trans rA0c2; have r10 := (hSw.cell (p := ⟨w.heap.size + 1, 0, none⟩) HAl1).trans rA1c0; have r11 := (hSw.cell (p := ⟨w.heap.size + 1, 1, none⟩) HAl1).trans rA1c1; have r12 := (hSw.cell (p := ⟨w.heap.size + 1, 2, none⟩) HAl1).trans rA1c2; go_simp; (try with_reducible rfl))); (try simp only [Act.put, List.setIfInBounds_toArray, List.set_cons_zero, List.set_cons_succ])) | (apply ord_skip rfl (by rfl) (by rfl) (fun _ => hBe); (try simp only [Act.put, List.setIfInBounds_toArray, List.set_cons_zero, List.set_cons_succ])))
      refine ord_do rfl (by rfl) (by rfl) (fun K hK => ?_)
      go_simp
      have kq := kw.trans (hBe.mono kw.size)
      have hcl := (specCI_c t2 _ x0 (metric_rd Eqw0) SH0 _ x1 (metric_rd Eqw1) SH1)
      rw [HY0.out, HY1.out] at hcl
      have HCL := hide hcl
      clear hcl
      refine HCL.out.mono ?_
      rintro e t3 ⟨rfl, hb⟩
      clear HCL
      replace hBe := hBe.trans (hb.mono hBe.size)
      clear hb kq Eqw0 Eqw1
      refine hK.out _ _ (fun _ => hBe) ?_
      (try simp only [Act.put, List.setIfInBounds_toArray, List.set_cons_zero, List.set_cons_succ])
      clear hK K
      repeat (first | (apply ord_tk rfl (by rfl) (by rfl) (by rfl); (focus (intro wx hSw; have r00 := (hSw.cell (p := ⟨w.heap.size, 0, none⟩) HAl0).trans rA0c0; have r01 := (hSw.cell (p := ⟨w.heap.size, 1, none⟩) HAl0).trans rA0c1; have r02 := (hSw.cell (p := ⟨w.heap.size, 2, none⟩) HAl0).trans rA0c2; have r10 := (hSw.cell (p := ⟨w.heap.size + 1, 0, none⟩) HAl1).trans rA1c0; have r11 := (hSw.cell (p := ⟨w.heap.size + 1, 1, none⟩) HAl1).trans rA1c1; have r12 := (hSw.cell (p := ⟨w.heap.size + 1, 2, none⟩) HAl1).trans rA1c2; go_simp; (try with_reducible rfl))); (try simp only [Act.put, List.setIfInBounds_toArray, List.set_cons_zero, List.set_cons_succ])) | (apply ord_skip rfl (by rfl) (by rfl) (fun _ => hBe); (try simp only [Act.put, List.setIfInBounds_toArray, List.set_cons_zero, List.set_cons_succ])))
      (first | (refine ord_do rfl (by rfl) (by rfl) (fun K hK => ?_); go_simp; refine hK.out _ _ (fun h => absurd h (by omega)) ?_; (try simp only [Act.put, List.setIfInBounds_toArray, List.set_cons_zero, List.set_cons_succ]); clear hK K) | skip)
      (first | (refine ord_do rfl (by rfl) (by rfl) (fun K hK => ?_); go_simp; refine hK.out _ _ (fun h => absurd h (by omega)) ?_; (try simp only [Act.put, List.setIfInBounds_toArray, List.set_cons_zero, List.set_cons_succ]); clear hK K) | skip)
      refine ord_nil ?_
      have hb := hBe
      clear hBe HAl0 rA0c0 rA0c1 rA0c2 HAl1 rA1c0 rA1c1 rA1c2
      replace kw := kw.trans (hb.mono kw.size)
      replace bA0 := bA0.all hb
      replace sA0 := Nat.lt_of_lt_of_le sA0 hb.size
      replace bA1 := bA1.all hb
      replace sA1 := Nat.lt_of_lt_of_le sA1 hb.size
      clear hb
      have SA0t3 := sA0
      have SA1t3 := sA1
      have Kt3 := kw.size
      have Zt3 := Nat.le_refl t3.heap.size
      have bA0c0 := bA0.cell 0
      have bA0c1 := bA0.cell 1
      have bA0c2 := bA0.cell 2
      have bA1c0 := bA1.cell 0
      have bA1c1 := bA1.cell 1
      have bA1c2 := bA1.cell 2
      go_wp2_with fail
      clear bA0c0 bA0c1 bA0c2 bA1c0 bA1c1 bA1c2
      refine (metric_to _ _ x0 (metric_keep HA0 kw kw.size) SH0).mono ?_
      rintro e t4 ⟨u, rfl, he, hb⟩
      obtain ⟨Ax0, nx0, cx0, zx0, Dx0, mx0, ex0, rfl, hf⟩ := metric_form (metric_rd he)
      clear hf
      have hbs := hb.size
      replace kw := kw.trans (hb.mono kw.size)
      replace bA0 := bA0.all hb
      replace sA0 := Nat.lt_of_lt_of_le sA0 hb.size
      replace bA1 := bA1.all hb
      replace sA1 := Nat.lt_of_lt_of_le sA1 hb.size
      replace Zt3 := Nat.le_trans Zt3 hb.size
      clear hb
      clear hbs
      have EX0 := he
      clear he
      have Ot3t4 := Zt3
      have SA0t4 := sA0
      have SA1t4 := sA1
      have Kt4 := kw.size
      have Zt4 := Nat.le_refl t4.heap.size
      obtain ⟨X0, hX0⟩ : ∃ X, t4.heap.size = X := ⟨_, rfl⟩
      have sA0l2 : w.heap.size < X0 := by omega
      have sA1l2 : w.heap.size + 1 < X0 := by omega
      have bA0c0 := bA0.cell 0
      have bA0c1 := bA0.cell 1
      have bA0c2 := bA0.cell 2
      have bA1c0 := bA1.cell 0
      have bA1c1 := bA1.cell 1
      have bA1c2 := bA1.cell 2
      go_wp2_with fail
      clear bA0c0 bA0c1 bA0c2 bA1c0 bA1c1 bA1c2
      clear sA0l2 sA1l2
      obtain ⟨t5, ht5⟩ : ∃ w5, t4.alloc (.cells #[.slice Ax0 nx0 cx0, .int .i64 zx0, .slice Dx0 mx0 ex0] 28) = w5 := ⟨_, rfl⟩
      have hb : Below t4.heap.size t4 t5 := by rw [← ht5]; exact (Below.refl _ _).alloc (Nat.le_refl _) _
      have bX0 : Blk t5 X0 28 #[.slice Ax0 nx0 cx0, .int .i64 zx0, .slice Dx0 mx0 ex0] := by rw [← ht5]; exact Blk.new' _ _ _ _ hX0
      rw [ht5]
      clear ht5
      replace kw := kw.trans (hb.mono kw.size)
      replace bA0 := bA0.all hb
      replace sA0 := Nat.lt_of_lt_of_le sA0 hb.size
      replace bA1 := bA1.all hb
      replace sA1 := Nat.lt_of_lt_of_le sA1 hb.size
      replace EX0 := metric_below EX0 hb
      replace Zt3 := Nat.le_trans Zt3 hb.size
      replace Zt4 := Nat.le_trans Zt4 hb.size
      clear hb
      have gX0 := bX0.lt
      have Ot3t5 := Zt3
      have Ot4t5 := Zt4
      have SA0t5 := sA0
      have SA1t5 := sA1
      have GbX0t5 := bX0.lt
      have Kt5 := kw.size
      have Zt5 := Nat.le_refl t5.heap.size
      clear gX0
      refine (metric_to _ _ x1 (metric_keep HA1 kw kw.size) SH1).mono ?_
      rintro e t6 ⟨u, rfl, he, hb⟩
      obtain ⟨Ax1, nx1, cx1, zx1, Dx1, mx1, ex1, rfl, hf⟩ := metric_form (metric_rd he)
      clear hf
      have hbs := hb.size
      replace kw := kw.trans (hb.mono kw.size)
      replace bA0 := bA0.all hb
      replace sA0 := Nat.lt_of_lt_of_le sA0 hb.size
      replace bA1 := bA1.all hb
      replace sA1 := Nat.lt_of_lt_of_le sA1 hb.size
      replace bX0 := bX0.all hb
      replace EX0 := metric_below EX0 hb
      replace Zt3 := Nat.le_trans Zt3 hb.size
      replace Zt4 := Nat.le_trans Zt4 hb.size
      replace Zt5 := Nat.le_trans Zt5 hb.size
      clear hb
      clear hbs
      have EX1 := he
      clear he
      have Ot3t6 := Zt3
      have Ot4t6 := Zt4
      have Ot5t6 := Zt5
      have SA0t6 := sA0
      have SA1t6 := sA1
      have GbX0t6 := bX0.lt
      have Kt6 := kw.size
      have Zt6 := Nat.le_refl t6.heap.size
      obtain ⟨X1, hX1⟩ : ∃ X, t6.heap.size = X := ⟨_, rfl⟩
      have bX0l2 : X0 < X1 := by have := bX0.lt; omega
      have sA0l2 : w.heap.size < X1 := by omega
      have sA1l2 : w.heap.size + 1 < X1 := by omega
      have bA0c0 := bA0.cell 0
      have bA0c1 := bA0.cell 1
      have bA0c2 := bA0.cell 2
      have bA1c0 := bA1.cell 0
      have bA1c1 := bA1.cell 1
      have bA1c2 := bA1.cell 2
      have bX0c0 := bX0.cell 0
      have bX0c1 := bX0.cell 1
      have bX0c2 := bX0.cell 2
      have bX0lt := bX0.lt
      go_wp2_with fail
      clear bA0c0 bA0c1 bA0c2 bA1c0 bA1c1 bA1c2 bX0c0 bX0c1 bX0c2 bX0lt
      clear bX0l2 sA0l2 sA1l2
      obtain ⟨t7, ht7⟩ : ∃ w5, t6.alloc (.cells #[.slice Ax1 nx1 cx1, .int .i64 zx1, .slice Dx1 mx1 ex1] 28) = w5 := ⟨_, rfl⟩
      have hb : Below t6.heap.size t6 t7 := by rw [← ht7]; exact (Below.refl _ _).alloc (Nat.le_refl _) _
      have bX1 : Blk t7 X1 28 #[.slice Ax1 nx1 cx1, .int .i64 zx1, .slice Dx1 mx1 ex1] := by rw [← ht7]; exact Blk.new' _ _ _ _ hX1
      rw [ht7]
      clear ht7
      replace kw := kw.trans (hb.mono kw.size)
      replace bA0 := bA0.all hb
      replace sA0 := Nat.lt_of_lt_of_le sA0 hb.size
      replace bA1 := bA1.all hb
      replace sA1 := Nat.lt_of_lt_of_le sA1 hb.size
      replace bX0 := bX0.all hb
      replace EX0 := metric_below EX0 hb
      replace EX1 := metric_below EX1 hb
      replace Zt3 := Nat.le_trans Zt3 hb.size
      replace Zt4 := Nat.le_trans Zt4 hb.size
      replace Zt5 := Nat.le_trans Zt5 hb.size
      replace Zt6 := Nat.le_trans Zt6 hb.size
      clear hb
      have gX1 := bX1.lt
      have Ot3t7 := Zt3
      have Ot4t7 := Zt4
      have Ot5t7 := Zt5
      have Ot6t7 := Zt6
      have SA0t7 := sA0
      have SA1t7 := sA1
      have GbX0t7 := bX0.lt
      have GbX1t7 := bX1.lt
      have Kt7 := kw.size
      have Zt7 := Nat.le_refl t7.heap.size
      clear gX1
      have hcl := (implCI_c t7 _ x0 (metric_rd EX0) SH0 _ x1 (metric_rd EX1) SH1)
      rw [HY0.out, HY1.out] at hcl
      have HCL := hide hcl
      clear hcl
      refine HCL.out.mono ?_
      rintro e t8 ⟨rfl, hb⟩
      clear HCL
      replace kw := kw.trans (hb.mono kw.size)
      replace bA0 := bA0.all hb
      replace sA0 := Nat.lt_of_lt_of_le sA0 hb.size
      replace bA1 := bA1.all hb
      replace sA1 := Nat.lt_of_lt_of_le sA1 hb.size
      replace bX0 := bX0.all hb
      replace bX1 := bX1.all hb
      replace EX0 := metric_below EX0 hb
      replace EX1 := metric_below EX1 hb
      replace Zt3 := Nat.le_trans Zt3 hb.size
      replace Zt4 := Nat.le_trans Zt4 hb.size
      replace Zt5 := Nat.le_trans Zt5 hb.size
      replace Zt6 := Nat.le_trans Zt6 hb.size
      replace Zt7 := Nat.le_trans Zt7 hb.size
      clear hb
      have Ot3t8 := Zt3
      have Ot4t8 := Zt4
      have Ot5t8 := Zt5
      have Ot6t8 := Zt6
      have Ot7t8 := Zt7
      have SA0t8 := sA0
      have SA1t8 := sA1
      have GbX0t8 := bX0.lt
      have GbX1t8 := bX1.lt
      have Kt8 := kw.size
      have Zt8 := Nat.le_refl t8.heap.size
      have bA0c0 := bA0.cell 0
      have bA0c1 := bA0.cell 1
      have bA0c2 := bA0.cell 2
      have bA1c0 := bA1.cell 0
      have bA1c1 := bA1.cell 1
      have bA1c2 := bA1.cell 2
      have bX0c0 := bX0.cell 0
      have bX0c1 := bX0.cell 1
      have bX0c2 := bX0.cell 2
      have bX1c0 := bX1.cell 0
      have bX1c1 := bX1.cell 1
      have bX1c2 := bX1.cell 2
      have bX0lt := bX0.lt
      have bX1lt := bX1.lt
      go_wp2_with fail
      clear bA0c0 bA0c1 bA0c2 bA1c0 bA1c1 bA1c2 bX0c0 bX0c1 bX0c2 bX1c0 bX1c1 bX1c2 bX0lt bX1lt
      have HXl := bX0.lt
      have HAl := bA0.lt
      have rA0 := bA0.cell 0
      have rX0 := bX0.cell 0
      have rA1 := bA0.cell 1
      have rX1 := bX0.cell 1
      have rA2 := bA0.cell 2
      have rX2 := bX0.cell 2
      refine wp_region_be [0, 1, 2, 3, 4] 5 t8.heap.size t8 (by kernel_rfl) (by kernel_rfl) (by kernel_rfl) (fun _ _ _ _ _ h => h) (Below.refl _ _) (fun wd hBe => ?_)
      repeat (first | (apply ord_tk rfl (by rfl) (by rfl) (by rfl); (focus (intro wx hSw; have r0 := (hSw.cell (p := ⟨w.heap.size, 0, none⟩) HAl).trans rA0; have r1 := (hSw.cell (p := ⟨w.heap.size, 1, none⟩) HAl).trans rA1; have r2 := (hSw.cell (p := ⟨w.heap.size, 2, none⟩) HAl).trans rA2; have s0 := (hSw.cell (p := ⟨X0, 0, none⟩) HXl).trans rX0; have s1 := (hSw.cell (p := ⟨X0, 1, none⟩) HXl).trans rX1; have s2 := (hSw.cell (p := ⟨X0, 2, none⟩) HXl).trans rX2; go_simp; (try with_reducible rfl))); (try simp only [Act.put, List.setIfInBounds_toArray, List.set_cons_zero, List.set_cons_succ])) | (apply ord_skip rfl (by rfl) (by rfl) (fun _ => hBe); (try simp only [Act.put, List.setIfInBounds_toArray, List.set_cons_zero, List.set_cons_succ])))
      refine ord_do rfl (by rfl) (by rfl) (fun K hK => ?_)
      go_simp
      have kq := kw.trans (hBe.mono kw.size)
      refine (metric_to _ _ x0 (metric_keep HA0 kq kq.size) SH0).mono ?_
      rintro e wq ⟨u, rfl, he, hb⟩
      obtain ⟨Ar0, nr0, cr0, zr0, Dr0, mr0, er0, rfl, hf⟩ := metric_form (metric_rd he)
      clear hf
      replace hBe := hBe.trans (hb.mono hBe.size)
      clear hb kq
      refine hK.out _ _ (fun _ => hBe) ?_
      (try simp only [Act.put, List.setIfInBounds_toArray, List.set_cons_zero, List.set_cons_succ])
      clear hK K
      repeat (first | (apply ord_tk rfl (by rfl) (by rfl) (by rfl); (focus (intro wx hSw; have r0 := (hSw.cell (p := ⟨w.heap.size, 0, none⟩) HAl).trans rA0; have r1 := (hSw.cell (p := ⟨w.heap.size, 1, none⟩) HAl).trans rA1; have r2 := (hSw.cell (p := ⟨w.heap.size, 2, none⟩) HAl).trans rA2; have s0 := (hSw.cell (p := ⟨X0, 0, none⟩) HXl).trans rX0; have s1 := (hSw.cell (p := ⟨X0, 1, none⟩) HXl).trans rX1; have s2 := (hSw.cell (p := ⟨X0, 2, none⟩) HXl).trans rX2; go_simp; (try with_reducible rfl))); (try simp only [Act.put, List.setIfInBounds_toArray, List.set_cons_zero, List.set_cons_succ])) | (apply ord_skip rfl (by rfl) (by rfl) (fun _ => hBe); (try simp only [Act.put, List.setIfInBounds_toArray, List.set_cons_zero, List.set_cons_succ])))
      refine ord_do rfl (by rfl) (by rfl) (fun K hK => ?_)
      go_simp
      refine (metric_eq _ _ _ x0 x0 (metric_rd (metric_below EX0 hBe)) (metric_rd he) SH0).mono ?_
      rintro e wd' ⟨rfl, hwd⟩
      replace hBe := hBe.trans (hwd.mono hBe.size)
      clear hwd
      refine hK.out _ _ (fun _ => hBe) ?_
      (try simp only [Act.put, List.setIfInBounds_toArray, List.set_cons_zero, List.set_cons_succ])
      clear hK K
      simp only [beq_self_eq_true]
      repeat (first | (apply ord_tk rfl (by rfl) (by rfl) (by rfl); (focus (intro wx hSw; have r0 := (hSw.cell (p := ⟨w.heap.size, 0, none⟩) HAl).trans rA0; have r1 := (hSw.cell (p := ⟨w.heap.size, 1, none⟩) HAl).trans rA1; have r2 := (hSw.cell (p := ⟨w.heap.size, 2, none⟩) HAl).trans rA2; have s0 := (hSw.cell (p := ⟨X0, 0, none⟩) HXl).trans rX0; have s1 := (hSw.cell (p := ⟨X0, 1, none⟩) HXl).trans rX1; have s2 := (hSw.cell (p := ⟨X0, 2, none⟩) HXl).trans rX2; go_simp; (try with_reducible rfl))); (try simp only [Act.put, List.setIfInBounds_toArray, List.set_cons_zero, List.set_cons_succ])) | (apply ord_skip rfl (by rfl) (by rfl) (fun _ => hBe); (try simp only [Act.put, List.setIfInBounds_toArray, List.set_cons_zero, List.set_cons_succ])))
      refine ord_nil ?_
      clear he HXl HAl rA0 rX0 rA1 rX1 rA2 rX2
      obtain ⟨t9, hnz⟩ : ∃ x, x = wd' := ⟨_, rfl⟩
      subst hnz
      have hb := hBe
      clear hBe
      replace kw := kw.trans (hb.mono kw.size)
      replace bA0 := bA0.all hb
      replace sA0 := Nat.lt_of_lt_of_le sA0 hb.size
      replace bA1 := bA1.all hb
      replace sA1 := Nat.lt_of_lt_of_le sA1 hb.size
      replace bX0 := bX0.all hb
      replace bX1 := bX1.all hb
      replace EX0 := metric_below EX0 hb
      replace EX1 := metric_below EX1 hb
      replace Zt3 := Nat.le_trans Zt3 hb.size
      replace Zt4 := Nat.le_trans Zt4 hb.size
      replace Zt5 := Nat.le_trans Zt5 hb.size
      replace Zt6 := Nat.le_trans Zt6 hb.size
      replace Zt7 := Nat.le_trans Zt7 hb.size
      replace Zt8 := Nat.le_trans Zt8 hb.size
      clear hb
      have bA0c0 := bA0.cell 0
      have bA0c1 := bA0.cell 1
      have bA0c2 := bA0.cell 2
      have bA1c0 := bA1.cell 0
      have bA1c1 := bA1.cell 1
      have bA1c2 := bA1.cell 2
      have bX0c0 := bX0.cell 0
      have bX0c1 := bX0.cell 1
      have bX0c2 := bX0.cell 2
      have bX1c0 := bX1.cell 0
      have bX1c1 := bX1.cell 1
      have bX1c2 := bX1.cell 2
      have bX0lt := bX0.lt
      have bX1lt := bX1.lt
      go_wp2_with fail
      clear bA0c0 bA0c1 bA0c2 bA1c0 bA1c1 bA1c2 bX0c0 bX0c1 bX0c2 bX1c0 bX1c1 bX1c2 bX0lt bX1lt
      have HXl := bX1.lt
      have HAl := bA1.lt
      have rA0 := bA1.cell 0
      have rX0 := bX1.cell 0
      have rA1 := bA1.cell 1
      have rX1 := bX1.cell 1
      have rA2 := bA1.cell 2
      have rX2 := bX1.cell 2
      refine wp_region_be [0, 1, 2, 3, 4] 5 t9.heap.size t9 (by kernel_rfl) (by kernel_rfl) (by kernel_rfl) (fun _ _ _ _ _ h => h) (Below.refl _ _) (fun wd hBe => ?_)
      repeat (first | (apply ord_tk rfl (by rfl) (by rfl) (by rfl); (focus (intro wx hSw; have r0 := (hSw.cell (p := ⟨w.heap.size + 1, 0, none⟩) HAl).trans rA0; have r1 := (hSw.cell (p := ⟨w.heap.size + 1, 1, none⟩) HAl).trans rA1; have r2 := (hSw.cell (p := ⟨w.heap.size + 1, 2, none⟩) HAl).trans rA2; have s0 := (hSw.cell (p := ⟨X1, 0, none⟩) HXl).trans rX0; have s1 := (hSw.cell (p := ⟨X1, 1, none⟩) HXl).trans rX1; have s2 := (hSw.cell (p := ⟨X1, 2, none⟩) HXl).trans rX2; go_simp; (try with_reducible rfl))); (try simp only [Act.put, List.setIfInBounds_toArray, List.set_cons_zero, List.set_cons_succ])) | (apply ord_skip rfl (by rfl) (by rfl) (fun _ => hBe); (try simp only [Act.put, List.setIfInBounds_toArray, List.set_cons_zero, List.set_cons_succ])))
      refine ord_do rfl (by rfl) (by rfl) (fun K hK => ?_)
      go_simp
      have kq := kw.trans (hBe.mono kw.size)
      refine (metric_to _ _ x1 (metric_keep HA1 kq kq.size) SH1).mono ?_
      rintro e wq ⟨u, rfl, he, hb⟩
      obtain ⟨Ar1, nr1, cr1, zr1, Dr1, mr1, er1, rfl, hf⟩ := metric_form (metric_rd he)
      clear hf
      replace hBe := hBe.trans (hb.mono hBe.size)
      clear hb kq
      refine hK.out _ _ (fun _ => hBe) ?_
      (try simp only [Act.put, List.setIfInBounds_toArray, List.set_cons_zero, List.set_cons_succ])
      clear hK K
      repeat (first | (apply ord_tk rfl (by rfl) (by rfl) (by rfl); (focus (intro wx hSw; have r0 := (hSw.cell (p := ⟨w.heap.size + 1, 0, none⟩) HAl).trans rA0; have r1 := (hSw.cell (p := ⟨w.heap.size + 1, 1, none⟩) HAl).trans rA1; have r2 := (hSw.cell (p := ⟨w.heap.size + 1, 2, none⟩) HAl).trans rA2; have s0 := (hSw.cell (p := ⟨X1, 0, none⟩) HXl).trans rX0; have s1 := (hSw.cell (p := ⟨X1, 1, none⟩) HXl).trans rX1; have s2 := (hSw.cell (p := ⟨X1, 2, none⟩) HXl).trans rX2; go_simp; (try with_reducible rfl))); (try simp only [Act.put, List.setIfInBounds_toArray, List.set_cons_zero, List.set_cons_succ])) | (apply ord_skip rfl (by rfl) (by rfl) (fun _ => hBe); (try simp only [Act.put, List.setIfInBounds_toArray, List.set_cons_zero, List.set_cons_succ])))
      refine ord_do rfl (by rfl) (by rfl) (fun K hK => ?_)
      go_simp
      refine (metric_eq _ _ _ x1 x1 (metric_rd (metric_below EX1 hBe)) (metric_rd he) SH1).mono ?_
      rintro e wd' ⟨rfl, hwd⟩
      replace hBe := hBe.trans (hwd.mono hBe.size)
      clear hwd
      refine hK.out _ _ (fun _ => hBe) ?_
      (try simp only [Act.put, List.setIfInBounds_toArray, List.set_cons_zero, List.set_cons_succ])
      clear hK K
      simp only [beq_self_eq_true]
      repeat (first | (apply ord_tk rfl (by rfl) (by rfl) (by rfl); (focus (intro wx hSw; have r0 := (hSw.cell (p := ⟨w.heap.size + 1, 0, none⟩) HAl).trans rA0; have r1 := (hSw.cell (p := ⟨w.heap.size + 1, 1, none⟩) HAl).trans rA1; have r2 := (hSw.cell (p := ⟨w.heap.size + 1, 2, none⟩) HAl).trans rA2; have s0 := (hSw.cell (p := ⟨X1, 0, none⟩) HXl).trans rX0; have s1 := (hSw.cell (p := ⟨X1, 1, none⟩) HXl).trans rX1; have s2 := (hSw.cell (p := ⟨X1, 2, none⟩) HXl).trans rX2; go_simp; (try with_reducible rfl))); (try simp only [Act.put, List.setIfInBounds_toArray, List.set_cons_zero, List.set_cons_succ])) | (apply ord_skip rfl (by rfl) (by rfl) (fun _ => hBe); (try simp only [Act.put, List.setIfInBounds_toArray, List.set_cons_zero, List.set_cons_succ])))
      refine ord_nil ?_
      clear he HXl HAl rA0 rX0 rA1 rX1 rA2 rX2
      obtain ⟨t10, hnz⟩ : ∃ x, x = wd' := ⟨_, rfl⟩
      subst hnz
      have hb := hBe
      clear hBe
      replace kw := kw.trans (hb.mono kw.size)
      replace bA0 := bA0.all hb
      replace sA0 := Nat.lt_of_lt_of_le sA0 hb.size
      replace bA1 := bA1.all hb
      replace sA1 := Nat.lt_of_lt_of_le sA1 hb.size
      replace bX0 := bX0.all hb
      replace bX1 := bX1.all hb
      replace EX0 := metric_below EX0 hb
      replace EX1 := metric_below EX1 hb
      replace Zt3 := Nat.le_trans Zt3 hb.size
      replace Zt4 := Nat.le_trans Zt4 hb.size
      replace Zt5 := Nat.le_trans Zt5 hb.size
      replace Zt6 := Nat.le_trans Zt6 hb.size
      replace Zt7 := Nat.le_trans Zt7 hb.size
      replace Zt8 := Nat.le_trans Zt8 hb.size
      clear hb
      go_wp2_with fail
      go_ret
      exact ⟨rfl, kw⟩
set_option maxHeartbeats 8000000 in
set_option maxRecDepth 100000 in
theorem law_IsometryOf {w : World} (v0 : Value) (x0 : metric_T) (HA0 : metric_R w w.heap.size v0 x0) (HB0 : metric_Big x0) (v1 : Value) (x1 : metric_T) (HA1 : metric_R w w.heap.size v1 x1) (HB1 : metric_Big x1) : Calls Try.prog 4 #[v0, v1] w (Re w (.bool true)) := by
  obtain ⟨A0, n0, c0, z0, D0, m0, e0, rfl, hf⟩ := metric_form HA0
  clear hf
  obtain ⟨A1, n1, c1, z1, D1, m1, e1, rfl, hf⟩ := metric_form HA1
  clear hf
  by_cases q0 : (1048576 : Int) - (metric_tot x0 : Int) < 0
  · have HZ0 := hide (fun (W : World) (h : Below w.heap.size w W) => metric_sz W _ x0 1048576 (metric_keep HA0 h h.size) HB0 (by omega) (by omega))
    rw [szI_no q0] at HZ0
    go_enter Try.func4, Try.ntmps4
    go_wp2_with fail
    obtain ⟨W, hW⟩ : ∃ W, (w.alloc (.cells #[.slice A0 n0 c0, .int .i64 z0, .slice D0 m0 e0] 24)).alloc (.cells #[.slice A1 n1 c1, .int .i64 z1, .slice D1 m1 e1] 24) = W := ⟨_, rfl⟩
    have kw : Below w.heap.size w W := by rw [← hW]; exact (by repeat (first | assumption | exact Below.refl _ _ | apply below_drewN | apply Below.drew | apply Below.alloc | apply Below.setCell | omega | (focus (simp; done)) | (focus (simp; omega))))
    have bA0 : Blk W (w.heap.size) 24 #[.slice A0 n0 c0, .int .i64 z0, .slice D0 m0 e0] := by rw [← hW]; exact (Blk.new' _ _ _ _ (by simp)).alloc _
    have sA0 : w.heap.size < W.heap.size := bA0.lt
    have bA1 : Blk W (w.heap.size + 1) 24 #[.slice A1 n1 c1, .int .i64 z1, .slice D1 m1 e1] := by rw [← hW]; exact (Blk.new' _ _ _ _ (by simp))
    have sA1 : w.heap.size + 1 < W.heap.size := bA1.lt
    rw [hW]
    clear hW
    refine (HZ0.out _ kw).mono ?_
    rintro e ws0 ⟨rfl, hb⟩
    replace kw := kw.trans (hb.mono kw.size)
    replace bA0 := bA0.all hb
    replace sA0 := Nat.lt_of_lt_of_le sA0 hb.size
    replace bA1 := bA1.all hb
    replace sA1 := Nat.lt_of_lt_of_le sA1 hb.size
    clear hb
    have bA0c0 := bA0.cell 0
    have bA0c1 := bA0.cell 1
    have bA0c2 := bA0.cell 2
    have bA1c0 := bA1.cell 0
    have bA1c1 := bA1.cell 1
    have bA1c2 := bA1.cell 2
    go_wp2_with fail
    clear bA0c0 bA0c1 bA0c2 bA1c0 bA1c1 bA1c2
    go_ret
    exact ⟨rfl, kw⟩
  · have HZ0 := hide (fun (W : World) (h : Below w.heap.size w W) => metric_sz W _ x0 1048576 (metric_keep HA0 h h.size) HB0 (by omega) (by omega))
    rw [szI_ok q0] at HZ0
    have HS0 : metric_tot x0 ≤ 1048576 := by omega
    obtain ⟨l1, el1⟩ : ∃ l, (1048576 : Int) - (metric_tot x0 : Int) = l := ⟨_, rfl⟩
    have bl1a : 0 ≤ l1 := by omega
    have bl1b : l1 ≤ 1048576 := by omega
    rw [el1] at HZ0
    clear el1 q0
    by_cases q1 : (l1 : Int) - (metric_tot x1 : Int) < 0
    · have HZ1 := hide (fun (W : World) (h : Below w.heap.size w W) => metric_sz W _ x1 l1 (metric_keep HA1 h h.size) HB1 (by omega) (by omega))
      rw [szI_no q1] at HZ1
      go_enter Try.func4, Try.ntmps4
      go_wp2_with fail
      obtain ⟨W, hW⟩ : ∃ W, (w.alloc (.cells #[.slice A0 n0 c0, .int .i64 z0, .slice D0 m0 e0] 24)).alloc (.cells #[.slice A1 n1 c1, .int .i64 z1, .slice D1 m1 e1] 24) = W := ⟨_, rfl⟩
      have kw : Below w.heap.size w W := by rw [← hW]; exact (by repeat (first | assumption | exact Below.refl _ _ | apply below_drewN | apply Below.drew | apply Below.alloc | apply Below.setCell | omega | (focus (simp; done)) | (focus (simp; omega))))
      have bA0 : Blk W (w.heap.size) 24 #[.slice A0 n0 c0, .int .i64 z0, .slice D0 m0 e0] := by rw [← hW]; exact (Blk.new' _ _ _ _ (by simp)).alloc _
      have sA0 : w.heap.size < W.heap.size := bA0.lt
      have bA1 : Blk W (w.heap.size + 1) 24 #[.slice A1 n1 c1, .int .i64 z1, .slice D1 m1 e1] := by rw [← hW]; exact (Blk.new' _ _ _ _ (by simp))
      have sA1 : w.heap.size + 1 < W.heap.size := bA1.lt
      rw [hW]
      clear hW
      refine (HZ0.out _ kw).mono ?_
      rintro e ws0 ⟨rfl, hb⟩
      replace kw := kw.trans (hb.mono kw.size)
      replace bA0 := bA0.all hb
      replace sA0 := Nat.lt_of_lt_of_le sA0 hb.size
      replace bA1 := bA1.all hb
      replace sA1 := Nat.lt_of_lt_of_le sA1 hb.size
      clear hb
      have bA0c0 := bA0.cell 0
      have bA0c1 := bA0.cell 1
      have bA0c2 := bA0.cell 2
      have bA1c0 := bA1.cell 0
      have bA1c1 := bA1.cell 1
      have bA1c2 := bA1.cell 2
      go_wp2_with fail
      clear bA0c0 bA0c1 bA0c2 bA1c0 bA1c1 bA1c2
      refine (HZ1.out _ kw).mono ?_
      rintro e ws1 ⟨rfl, hb⟩
      replace kw := kw.trans (hb.mono kw.size)
      replace bA0 := bA0.all hb
      replace sA0 := Nat.lt_of_lt_of_le sA0 hb.size
      replace bA1 := bA1.all hb
      replace sA1 := Nat.lt_of_lt_of_le sA1 hb.size
      clear hb
      have bA0c0 := bA0.cell 0
      have bA0c1 := bA0.cell 1
      have bA0c2 := bA0.cell 2
      have bA1c0 := bA1.cell 0
      have bA1c1 := bA1.cell 1
      have bA1c2 := bA1.cell 2
      go_wp2_with fail
      clear bA0c0 bA0c1 bA0c2 bA1c0 bA1c1 bA1c2
      go_ret
      exact ⟨rfl, kw⟩
    · have HZ1 := hide (fun (W : World) (h : Below w.heap.size w W) => metric_sz W _ x1 l1 (metric_keep HA1 h h.size) HB1 (by omega) (by omega))
      rw [szI_ok q1] at HZ1
      have HS1 : metric_tot x1 ≤ 1048576 := by omega
      obtain ⟨l2, el2⟩ : ∃ l, (l1 : Int) - (metric_tot x1 : Int) = l := ⟨_, rfl⟩
      have bl2a : 0 ≤ l2 := by omega
      have bl2b : l2 ≤ 1048576 := by omega
      rw [el2] at HZ1
      clear el2 q1
      have SH0 := metric_sh HS0
      have SL0 := metric_sumle x0
      have SH1 := metric_sh HS1
      have SL1 := metric_sumle x1
      obtain ⟨y0, hy0⟩ : ∃ y : List Int, ioL x0 x1 = y := ⟨_, rfl⟩
      have HY0 := hide hy0
      clear hy0
      obtain ⟨y1, hy1⟩ : ∃ y : Int, ioK x0 x1 = y := ⟨_, rfl⟩
      have HY1 := hide hy1
      clear hy1
      have SY0 : ints_tot y0 ≤ 1048576 := by rw [← HY0.out]; exact io_sh x0 x1 HS0
      have SY := ints_sh SY0
      have SY2 := ints_sumle y0
      go_enter Try.func4, Try.ntmps4
      go_wp2_with fail
      obtain ⟨W, hW⟩ : ∃ W, (w.alloc (.cells #[.slice A0 n0 c0, .int .i64 z0, .slice D0 m0 e0] 24)).alloc (.cells #[.slice A1 n1 c1, .int .i64 z1, .slice D1 m1 e1] 24) = W := ⟨_, rfl⟩
      have kw : Below w.heap.size w W := by rw [← hW]; exact (by repeat (first | assumption | exact Below.refl _ _ | apply below_drewN | apply Below.drew | apply Below.alloc | apply Below.setCell | omega | (focus (simp; done)) | (focus (simp; omega))))
      have bA0 : Blk W (w.heap.size) 24 #[.slice A0 n0 c0, .int .i64 z0, .slice D0 m0 e0] := by rw [← hW]; exact (Blk.new' _ _ _ _ (by simp)).alloc _
      have sA0 : w.heap.size < W.heap.size := bA0.lt
      have bA1 : Blk W (w.heap.size + 1) 24 #[.slice A1 n1 c1, .int .i64 z1, .slice D1 m1 e1] := by rw [← hW]; exact (Blk.new' _ _ _ _ (by simp))
      have sA1 : w.heap.size + 1 < W.heap.size := bA1.lt
      rw [hW]
      clear hW
      refine (HZ0.out _ kw).mono ?_
      rintro e ws0 ⟨rfl, hb⟩
      replace kw := kw.trans (hb.mono kw.size)
      replace bA0 := bA0.all hb
      replace sA0 := Nat.lt_of_lt_of_le sA0 hb.size
      replace bA1 := bA1.all hb
      replace sA1 := Nat.lt_of_lt_of_le sA1 hb.size
      clear hb
      have bA0c0 := bA0.cell 0
      have bA0c1 := bA0.cell 1
      have bA0c2 := bA0.cell 2
      have bA1c0 := bA1.cell 0
      have bA1c1 := bA1.cell 1
      have bA1c2 := bA1.cell 2
      go_wp2_with fail
      clear bA0c0 bA0c1 bA0c2 bA1c0 bA1c1 bA1c2
      refine (HZ1.out _ kw).mono ?_
      rintro e ws1 ⟨rfl, hb⟩
      replace kw := kw.trans (hb.mono kw.size)
      replace bA0 := bA0.all hb
      replace sA0 := Nat.lt_of_lt_of_le sA0 hb.size
      replace bA1 := bA1.all hb
      replace sA1 := Nat.lt_of_lt_of_le sA1 hb.size
      clear hb
      have bA0c0 := bA0.cell 0
      have bA0c1 := bA0.cell 1
      have bA0c2 := bA0.cell 2
      have bA1c0 := bA1.cell 0
      have bA1c1 := bA1.cell 1
      have bA1c2 := bA1.cell 2
      go_wp2_with fail
      clear bA0c0 bA0c1 bA0c2 bA1c0 bA1c1 bA1c2
      have HAl0 := bA0.lt
      have rA0c0 := bA0.cell 0
      have rA0c1 := bA0.cell 1
      have rA0c2 := bA0.cell 2
      have HAl1 := bA1.lt
      have rA1c0 := bA1.cell 0
      have rA1c1 := bA1.cell 1
      have rA1c2 := bA1.cell 2
      refine wp_region_be [0, 2, 1, 3, 4, 5, 6, 7, 8, 9] 9 ws1.heap.size ws1 (by kernel_rfl) (by kernel_rfl) (by kernel_rfl) (fun _ _ _ _ _ h => h) (Below.refl _ _) (fun wd hBe => ?_)
      repeat (first | (apply ord_tk rfl (by rfl) (by rfl) (by rfl); (focus (intro wx hSw; have r00 := (hSw.cell (p := ⟨w.heap.size, 0, none⟩) HAl0).trans rA0c0; have r01 := (hSw.cell (p := ⟨w.heap.size, 1, none⟩) HAl0).trans rA0c1; have r02 := (hSw.cell (p := ⟨w.heap.size, 2, none⟩) HAl0).trans rA0c2; have r10 := (hSw.cell (p := ⟨w.heap.size + 1, 0, none⟩) HAl1).trans rA1c0; have r11 := (hSw.cell (p := ⟨w.heap.size + 1, 1, none⟩) HAl1).trans rA1c1; have r12 := (hSw.cell (p := ⟨w.heap.size + 1, 2, none⟩) HAl1).trans rA1c2; go_simp; (try with_reducible rfl))); (try simp only [Act.put, List.setIfInBounds_toArray, List.set_cons_zero, List.set_cons_succ])) | (apply ord_skip rfl (by rfl) (by rfl) (fun _ => hBe); (try simp only [Act.put, List.setIfInBounds_toArray, List.set_cons_zero, List.set_cons_succ])))
      refine ord_do rfl (by rfl) (by rfl) (fun K hK => ?_)
      go_simp
      have kq := kw.trans (hBe.mono kw.size)
      refine (metric_to _ _ x0 (metric_keep HA0 kq kq.size) SH0).mono ?_
      rintro e t1 ⟨u, rfl, he, hb⟩
      obtain ⟨Aw0, nw0, cw0, zw0, Dw0, mw0, ew0, rfl, hf⟩ := metric_form (metric_rd he)
      clear hf
      replace hBe := hBe.trans (hb.mono hBe.size)
      have Eqw0 := he
      clear he hb kq
      refine hK.out _ _ (fun _ => hBe) ?_
      (try simp only [Act.put, List.setIfInBounds_toArray, List.set_cons_zero, List.set_cons_succ])
      clear hK K
      repeat (first | (apply ord_tk rfl (by rfl) (by rfl) (by rfl); (focus (intro wx hSw; have r00 := (hSw.cell (p := ⟨w.heap.size, 0, none⟩) HAl0).trans rA0c0; have r01 := (hSw.cell (p := ⟨w.heap.size, 1, none⟩) HAl0).trans rA0c1; have r02 := (hSw.cell (p := ⟨w.heap.size, 2, none⟩) HAl0).trans rA0c2; have r10 := (hSw.cell (p := ⟨w.heap.size + 1, 0, none⟩) HAl1).trans rA1c0; have r11 := (hSw.cell (p := ⟨w.heap.size + 1, 1, none⟩) HAl1).trans rA1c1; have r12 := (hSw.cell (p := ⟨w.heap.size + 1, 2, none⟩) HAl1).trans rA1c2; go_simp; (try with_reducible rfl))); (try simp only [Act.put, List.setIfInBounds_toArray, List.set_cons_zero, List.set_cons_succ])) | (apply ord_skip rfl (by rfl) (by rfl) (fun _ => hBe); (try simp only [Act.put, List.setIfInBounds_toArray, List.set_cons_zero, List.set_cons_succ])))
      refine ord_do rfl (by rfl) (by rfl) (fun K hK => ?_)
      go_simp
      have kq := kw.trans (hBe.mono kw.size)
      refine (metric_to _ _ x1 (metric_keep HA1 kq kq.size) SH1).mono ?_
      rintro e t2 ⟨u, rfl, he, hb⟩
      obtain ⟨Aw1, nw1, cw1, zw1, Dw1, mw1, ew1, rfl, hf⟩ := metric_form (metric_rd he)
      clear hf
      replace Eqw0 := metric_below Eqw0 hb
      replace hBe := hBe.trans (hb.mono hBe.size)
      have Eqw1 := he
      clear he hb kq
      refine hK.out _ _ (fun _ => hBe) ?_
      (try simp only [Act.put, List.setIfInBounds_toArray, List.set_cons_zero, List.set_cons_succ])
      clear hK K
      repeat (first | (apply ord_tk rfl (by rfl) (by rfl) (by rfl); (focus (intro wx hSw; have r00 := (hSw.cell (p := ⟨w.heap.size, 0, none⟩) HAl0).trans rA0c0; have r01 := (hSw.cell (p := ⟨w.heap.size, 1, none⟩) HAl0).trans rA0c1; have r02 := (hSw.cell (p := ⟨w.heap.size, 2, none⟩) HAl0).trans rA0c2; have r10 := (hSw.cell (p := ⟨w.heap.size + 1, 0, none⟩) HAl1).trans rA1c0; have r11 := (hSw.cell (p := ⟨w.heap.size + 1, 1, none⟩) HAl1).trans rA1c1; have r12 := (hSw.cell (p := ⟨w.heap.size + 1, 2, none⟩) HAl1).trans rA1c2; go_simp; (try with_reducible rfl))); (try simp only [Act.put, List.setIfInBounds_toArray, List.set_cons_zero, List.set_cons_succ])) | (apply ord_skip rfl (by rfl) (by rfl) (fun _ => hBe); (try simp only [Act.put, List.setIfInBounds_toArray, List.set_cons_zero, List.set_cons_succ])))
      refine ord_do rfl (by rfl) (by rfl) (fun K hK => ?_)
      go_simp
      have kq := kw.trans (hBe.mono kw.size)
      have hcl := (specIO_c t2 _ x0 (metric_rd Eqw0) SH0 _ x1 (metric_rd Eqw1) SH1)
      rw [HY0.out, HY1.out] at hcl
      have HCL := hide hcl
      clear hcl
      refine HCL.out.mono ?_
      rintro e t3 ⟨u, rfl, he, hb⟩
      clear HCL
      obtain ⟨Aw, nw, cw, rfl, hf⟩ := ints_form (ints_rd he)
      clear hf
      replace hBe := hBe.trans (hb.mono hBe.size)
      clear hb kq Eqw0 Eqw1
      refine hK.out _ _ (fun _ => hBe) ?_
      (try simp only [Act.put, List.setIfInBounds_toArray, List.set_cons_zero, List.set_cons_succ])
      clear hK K
      repeat (first | (apply ord_tk rfl (by rfl) (by rfl) (by rfl); (focus (intro wx hSw; have r00 := (hSw.cell (p := ⟨w.heap.size, 0, none⟩) HAl0).trans rA0c0; have r01 := (hSw.cell (p := ⟨w.heap.size, 1, none⟩) HAl0).trans rA0c1; have r02 := (hSw.cell (p := ⟨w.heap.size, 2, none⟩) HAl0).trans rA0c2; have r10 := (hSw.cell (p := ⟨w.heap.size + 1, 0, none⟩) HAl1).trans rA1c0; have r11 := (hSw.cell (p := ⟨w.heap.size + 1, 1, none⟩) HAl1).trans rA1c1; have r12 := (hSw.cell (p := ⟨w.heap.size + 1, 2, none⟩) HAl1).trans rA1c2; go_simp; (try with_reducible rfl))); (try simp only [Act.put, List.setIfInBounds_toArray, List.set_cons_zero, List.set_cons_succ])) | (apply ord_skip rfl (by rfl) (by rfl) (fun _ => hBe); (try simp only [Act.put, List.setIfInBounds_toArray, List.set_cons_zero, List.set_cons_succ])))
      (first | (refine ord_do rfl (by rfl) (by rfl) (fun K hK => ?_); go_simp; refine hK.out _ _ (fun h => absurd h (by omega)) ?_; (try simp only [Act.put, List.setIfInBounds_toArray, List.set_cons_zero, List.set_cons_succ]); clear hK K) | skip)
      (first | (refine ord_do rfl (by rfl) (by rfl) (fun K hK => ?_); go_simp; refine hK.out _ _ (fun h => absurd h (by omega)) ?_; (try simp only [Act.put, List.setIfInBounds_toArray, List.set_cons_zero, List.set_cons_succ]); clear hK K) | skip)
      refine ord_nil ?_
      have hb := hBe
      clear hBe HAl0 rA0c0 rA0c1 rA0c2 HAl1 rA1c0 rA1c1 rA1c2
      replace kw := kw.trans (hb.mono kw.size)
      replace bA0 := bA0.all hb
      replace sA0 := Nat.lt_of_lt_of_le sA0 hb.size
      replace bA1 := bA1.all hb
      replace sA1 := Nat.lt_of_lt_of_le sA1 hb.size
      clear hb
      have SA0t3 := sA0
      have SA1t3 := sA1
      have Kt3 := kw.size
      have Zt3 := Nat.le_refl t3.heap.size
      have Rw := ints_rd he
      clear he
      have bA0c0 := bA0.cell 0
      have bA0c1 := bA0.cell 1
      have bA0c2 := bA0.cell 2
      have bA1c0 := bA1.cell 0
      have bA1c1 := bA1.cell 1
      have bA1c2 := bA1.cell 2
      go_wp2_with fail
      clear bA0c0 bA0c1 bA0c2 bA1c0 bA1c1 bA1c2
      refine (metric_to _ _ x0 (metric_keep HA0 kw kw.size) SH0).mono ?_
      rintro e t4 ⟨u, rfl, he, hb⟩
      obtain ⟨Ax0, nx0, cx0, zx0, Dx0, mx0, ex0, rfl, hf⟩ := metric_form (metric_rd he)
      clear hf
      have hbs := hb.size
      replace kw := kw.trans (hb.mono kw.size)
      replace bA0 := bA0.all hb
      replace sA0 := Nat.lt_of_lt_of_le sA0 hb.size
      replace bA1 := bA1.all hb
      replace sA1 := Nat.lt_of_lt_of_le sA1 hb.size
      replace Rw := ints_keep Rw (hb.mono Zt3) (Nat.le_refl _)
      replace Zt3 := Nat.le_trans Zt3 hb.size
      clear hb
      clear hbs
      have EX0 := he
      clear he
      have Ot3t4 := Zt3
      have SA0t4 := sA0
      have SA1t4 := sA1
      have Kt4 := kw.size
      have Zt4 := Nat.le_refl t4.heap.size
      obtain ⟨X0, hX0⟩ : ∃ X, t4.heap.size = X := ⟨_, rfl⟩
      have sA0l2 : w.heap.size < X0 := by omega
      have sA1l2 : w.heap.size + 1 < X0 := by omega
      have bA0c0 := bA0.cell 0
      have bA0c1 := bA0.cell 1
      have bA0c2 := bA0.cell 2
      have bA1c0 := bA1.cell 0
      have bA1c1 := bA1.cell 1
      have bA1c2 := bA1.cell 2
      go_wp2_with fail
      clear bA0c0 bA0c1 bA0c2 bA1c0 bA1c1 bA1c2
      clear sA0l2 sA1l2
      obtain ⟨t5, ht5⟩ : ∃ w5, t4.alloc (.cells #[.slice Ax0 nx0 cx0, .int .i64 zx0, .slice Dx0 mx0 ex0] 28) = w5 := ⟨_, rfl⟩
      have hb : Below t4.heap.size t4 t5 := by rw [← ht5]; exact (Below.refl _ _).alloc (Nat.le_refl _) _
      have bX0 : Blk t5 X0 28 #[.slice Ax0 nx0 cx0, .int .i64 zx0, .slice Dx0 mx0 ex0] := by rw [← ht5]; exact Blk.new' _ _ _ _ hX0
      rw [ht5]
      clear ht5
      replace kw := kw.trans (hb.mono kw.size)
      replace bA0 := bA0.all hb
      replace sA0 := Nat.lt_of_lt_of_le sA0 hb.size
      replace bA1 := bA1.all hb
      replace sA1 := Nat.lt_of_lt_of_le sA1 hb.size
      replace EX0 := metric_below EX0 hb
      replace Rw := ints_keep Rw (hb.mono Zt3) (Nat.le_refl _)
      replace Zt3 := Nat.le_trans Zt3 hb.size
      replace Zt4 := Nat.le_trans Zt4 hb.size
      clear hb
      have gX0 := bX0.lt
      have Ot3t5 := Zt3
      have Ot4t5 := Zt4
      have SA0t5 := sA0
      have SA1t5 := sA1
      have GbX0t5 := bX0.lt
      have Kt5 := kw.size
      have Zt5 := Nat.le_refl t5.heap.size
      clear gX0
      refine (metric_to _ _ x1 (metric_keep HA1 kw kw.size) SH1).mono ?_
      rintro e t6 ⟨u, rfl, he, hb⟩
      obtain ⟨Ax1, nx1, cx1, zx1, Dx1, mx1, ex1, rfl, hf⟩ := metric_form (metric_rd he)
      clear hf
      have hbs := hb.size
      replace kw := kw.trans (hb.mono kw.size)
      replace bA0 := bA0.all hb
      replace sA0 := Nat.lt_of_lt_of_le sA0 hb.size
      replace bA1 := bA1.all hb
      replace sA1 := Nat.lt_of_lt_of_le sA1 hb.size
      replace bX0 := bX0.all hb
      replace EX0 := metric_below EX0 hb
      replace Rw := ints_keep Rw (hb.mono Zt3) (Nat.le_refl _)
      replace Zt3 := Nat.le_trans Zt3 hb.size
      replace Zt4 := Nat.le_trans Zt4 hb.size
      replace Zt5 := Nat.le_trans Zt5 hb.size
      clear hb
      clear hbs
      have EX1 := he
      clear he
      have Ot3t6 := Zt3
      have Ot4t6 := Zt4
      have Ot5t6 := Zt5
      have SA0t6 := sA0
      have SA1t6 := sA1
      have GbX0t6 := bX0.lt
      have Kt6 := kw.size
      have Zt6 := Nat.le_refl t6.heap.size
      obtain ⟨X1, hX1⟩ : ∃ X, t6.heap.size = X := ⟨_, rfl⟩
      have bX0l2 : X0 < X1 := by have := bX0.lt; omega
      have sA0l2 : w.heap.size < X1 := by omega
      have sA1l2 : w.heap.size + 1 < X1 := by omega
      have bA0c0 := bA0.cell 0
      have bA0c1 := bA0.cell 1
      have bA0c2 := bA0.cell 2
      have bA1c0 := bA1.cell 0
      have bA1c1 := bA1.cell 1
      have bA1c2 := bA1.cell 2
      have bX0c0 := bX0.cell 0
      have bX0c1 := bX0.cell 1
      have bX0c2 := bX0.cell 2
      have bX0lt := bX0.lt
      go_wp2_with fail
      clear bA0c0 bA0c1 bA0c2 bA1c0 bA1c1 bA1c2 bX0c0 bX0c1 bX0c2 bX0lt
      clear bX0l2 sA0l2 sA1l2
      obtain ⟨t7, ht7⟩ : ∃ w5, t6.alloc (.cells #[.slice Ax1 nx1 cx1, .int .i64 zx1, .slice Dx1 mx1 ex1] 28) = w5 := ⟨_, rfl⟩
      have hb : Below t6.heap.size t6 t7 := by rw [← ht7]; exact (Below.refl _ _).alloc (Nat.le_refl _) _
      have bX1 : Blk t7 X1 28 #[.slice Ax1 nx1 cx1, .int .i64 zx1, .slice Dx1 mx1 ex1] := by rw [← ht7]; exact Blk.new' _ _ _ _ hX1
      rw [ht7]
      clear ht7
      replace kw := kw.trans (hb.mono kw.size)
      replace bA0 := bA0.all hb
      replace sA0 := Nat.lt_of_lt_of_le sA0 hb.size
      replace bA1 := bA1.all hb
      replace sA1 := Nat.lt_of_lt_of_le sA1 hb.size
      replace bX0 := bX0.all hb
      replace EX0 := metric_below EX0 hb
      replace EX1 := metric_below EX1 hb
      replace Rw := ints_keep Rw (hb.mono Zt3) (Nat.le_refl _)
      replace Zt3 := Nat.le_trans Zt3 hb.size
      replace Zt4 := Nat.le_trans Zt4 hb.size
      replace Zt5 := Nat.le_trans Zt5 hb.size
      replace Zt6 := Nat.le_trans Zt6 hb.size
      clear hb
      have gX1 := bX1.lt
      have Ot3t7 := Zt3
      have Ot4t7 := Zt4
      have Ot5t7 := Zt5
      have Ot6t7 := Zt6
      have SA0t7 := sA0
      have SA1t7 := sA1
      have GbX0t7 := bX0.lt
      have GbX1t7 := bX1.lt
      have Kt7 := kw.size
      have Zt7 := Nat.le_refl t7.heap.size
      clear gX1
      have hcl := (implIO_c t7 _ x0 (metric_rd EX0) SH0 _ x1 (metric_rd EX1) SH1)
      rw [HY0.out, HY1.out] at hcl
      have HCL := hide hcl
      clear hcl
      refine HCL.out.mono ?_
      rintro e t8 ⟨u, rfl, he, hb⟩
      clear HCL
      obtain ⟨Ag, ng, cg, rfl, hf⟩ := ints_form (ints_rd he)
      clear hf
      replace kw := kw.trans (hb.mono kw.size)
      replace bA0 := bA0.all hb
      replace sA0 := Nat.lt_of_lt_of_le sA0 hb.size
      replace bA1 := bA1.all hb
      replace sA1 := Nat.lt_of_lt_of_le sA1 hb.size
      replace bX0 := bX0.all hb
      replace bX1 := bX1.all hb
      replace EX0 := metric_below EX0 hb
      replace EX1 := metric_below EX1 hb
      replace Rw := ints_keep Rw (hb.mono Zt3) (Nat.le_refl _)
      replace Zt3 := Nat.le_trans Zt3 hb.size
      replace Zt4 := Nat.le_trans Zt4 hb.size
      replace Zt5 := Nat.le_trans Zt5 hb.size
      replace Zt6 := Nat.le_trans Zt6 hb.size
      replace Zt7 := Nat.le_trans Zt7 hb.size
      clear hb
      have Eg := he
      clear he
      have Ot3t8 := Zt3
      have Ot4t8 := Zt4
      have Ot5t8 := Zt5
      have Ot6t8 := Zt6
      have Ot7t8 := Zt7
      have SA0t8 := sA0
      have SA1t8 := sA1
      have GbX0t8 := bX0.lt
      have GbX1t8 := bX1.lt
      have Kt8 := kw.size
      have Zt8 := Nat.le_refl t8.heap.size
      have bA0c0 := bA0.cell 0
      have bA0c1 := bA0.cell 1
      have bA0c2 := bA0.cell 2
      have bA1c0 := bA1.cell 0
      have bA1c1 := bA1.cell 1
      have bA1c2 := bA1.cell 2
      have bX0c0 := bX0.cell 0
      have bX0c1 := bX0.cell 1
      have bX0c2 := bX0.cell 2
      have bX1c0 := bX1.cell 0
      have bX1c1 := bX1.cell 1
      have bX1c2 := bX1.cell 2
      have bX0lt := bX0.lt
      have bX1lt := bX1.lt
      go_wp2_with fail
      clear bA0c0 bA0c1 bA0c2 bA1c0 bA1c1 bA1c2 bX0c0 bX0c1 bX0c2 bX1c0 bX1c1 bX1c2 bX0lt bX1lt
      refine (ints_eq _ _ _ y0 y0 (ints_rd Eg) (ints_keep Rw (Below.refl _ _) Zt3) SY).mono ?_
      rintro e t9 ⟨rfl, hb⟩
      simp only [beq_self_eq_true]
      replace kw := kw.trans (hb.mono kw.size)
      replace bA0 := bA0.all hb
      replace sA0 := Nat.lt_of_lt_of_le sA0 hb.size
      replace bA1 := bA1.all hb
      replace sA1 := Nat.lt_of_lt_of_le sA1 hb.size
      replace bX0 := bX0.all hb
      replace bX1 := bX1.all hb
      replace EX0 := metric_below EX0 hb
      replace EX1 := metric_below EX1 hb
      replace Eg := ints_below Eg hb
      replace Rw := ints_keep Rw (hb.mono Zt3) (Nat.le_refl _)
      replace Zt3 := Nat.le_trans Zt3 hb.size
      replace Zt4 := Nat.le_trans Zt4 hb.size
      replace Zt5 := Nat.le_trans Zt5 hb.size
      replace Zt6 := Nat.le_trans Zt6 hb.size
      replace Zt7 := Nat.le_trans Zt7 hb.size
      replace Zt8 := Nat.le_trans Zt8 hb.size
      clear hb
      have bA0c0 := bA0.cell 0
      have bA0c1 := bA0.cell 1
      have bA0c2 := bA0.cell 2
      have bA1c0 := bA1.cell 0
      have bA1c1 := bA1.cell 1
      have bA1c2 := bA1.cell 2
      have bX0c0 := bX0.cell 0
      have bX0c1 := bX0.cell 1
      have bX0c2 := bX0.cell 2
      have bX1c0 := bX1.cell 0
      have bX1c1 := bX1.cell 1
      have bX1c2 := bX1.cell 2
      have bX0lt := bX0.lt
      have bX1lt := bX1.lt
      go_wp2_with fail
      clear bA0c0 bA0c1 bA0c2 bA1c0 bA1c1 bA1c2 bX0c0 bX0c1 bX0c2 bX1c0 bX1c1 bX1c2 bX0lt bX1lt
      have HXl := bX0.lt
      have HAl := bA0.lt
      have rA0 := bA0.cell 0
      have rX0 := bX0.cell 0
      have rA1 := bA0.cell 1
      have rX1 := bX0.cell 1
      have rA2 := bA0.cell 2
      have rX2 := bX0.cell 2
      refine wp_region_be [0, 1, 2, 3, 4] 5 t9.heap.size t9 (by kernel_rfl) (by kernel_rfl) (by kernel_rfl) (fun _ _ _ _ _ h => h) (Below.refl _ _) (fun wd hBe => ?_)
      repeat (first | (apply ord_tk rfl (by rfl) (by rfl) (by rfl); (focus (intro wx hSw; have r0 := (hSw.cell (p := ⟨w.heap.size, 0, none⟩) HAl).trans rA0; have r1 := (hSw.cell (p := ⟨w.heap.size, 1, none⟩) HAl).trans rA1; have r2 := (hSw.cell (p := ⟨w.heap.size, 2, none⟩) HAl).trans rA2; have s0 := (hSw.cell (p := ⟨X0, 0, none⟩) HXl).trans rX0; have s1 := (hSw.cell (p := ⟨X0, 1, none⟩) HXl).trans rX1; have s2 := (hSw.cell (p := ⟨X0, 2, none⟩) HXl).trans rX2; go_simp; (try with_reducible rfl))); (try simp only [Act.put, List.setIfInBounds_toArray, List.set_cons_zero, List.set_cons_succ])) | (apply ord_skip rfl (by rfl) (by rfl) (fun _ => hBe); (try simp only [Act.put, List.setIfInBounds_toArray, List.set_cons_zero, List.set_cons_succ])))
      refine ord_do rfl (by rfl) (by rfl) (fun K hK => ?_)
      go_simp
      have kq := kw.trans (hBe.mono kw.size)
      refine (metric_to _ _ x0 (metric_keep HA0 kq kq.size) SH0).mono ?_
      rintro e wq ⟨u, rfl, he, hb⟩
      obtain ⟨Ar0, nr0, cr0, zr0, Dr0, mr0, er0, rfl, hf⟩ := metric_form (metric_rd he)
      clear hf
      replace hBe := hBe.trans (hb.mono hBe.size)
      clear hb kq
      refine hK.out _ _ (fun _ => hBe) ?_
      (try simp only [Act.put, List.setIfInBounds_toArray, List.set_cons_zero, List.set_cons_succ])
      clear hK K
      repeat (first | (apply ord_tk rfl (by rfl) (by rfl) (by rfl); (focus (intro wx hSw; have r0 := (hSw.cell (p := ⟨w.heap.size, 0, none⟩) HAl).trans rA0; have r1 := (hSw.cell (p := ⟨w.heap.size, 1, none⟩) HAl).trans rA1; have r2 := (hSw.cell (p := ⟨w.heap.size, 2, none⟩) HAl).trans rA2; have s0 := (hSw.cell (p := ⟨X0, 0, none⟩) HXl).trans rX0; have s1 := (hSw.cell (p := ⟨X0, 1, none⟩) HXl).trans rX1; have s2 := (hSw.cell (p := ⟨X0, 2, none⟩) HXl).trans rX2; go_simp; (try with_reducible rfl))); (try simp only [Act.put, List.setIfInBounds_toArray, List.set_cons_zero, List.set_cons_succ])) | (apply ord_skip rfl (by rfl) (by rfl) (fun _ => hBe); (try simp only [Act.put, List.setIfInBounds_toArray, List.set_cons_zero, List.set_cons_succ])))
      refine ord_do rfl (by rfl) (by rfl) (fun K hK => ?_)
      go_simp
      refine (metric_eq _ _ _ x0 x0 (metric_rd (metric_below EX0 hBe)) (metric_rd he) SH0).mono ?_
      rintro e wd' ⟨rfl, hwd⟩
      replace hBe := hBe.trans (hwd.mono hBe.size)
      clear hwd
      refine hK.out _ _ (fun _ => hBe) ?_
      (try simp only [Act.put, List.setIfInBounds_toArray, List.set_cons_zero, List.set_cons_succ])
      clear hK K
      simp only [beq_self_eq_true]
      repeat (first | (apply ord_tk rfl (by rfl) (by rfl) (by rfl); (focus (intro wx hSw; have r0 := (hSw.cell (p := ⟨w.heap.size, 0, none⟩) HAl).trans rA0; have r1 := (hSw.cell (p := ⟨w.heap.size, 1, none⟩) HAl).trans rA1; have r2 := (hSw.cell (p := ⟨w.heap.size, 2, none⟩) HAl).trans rA2; have s0 := (hSw.cell (p := ⟨X0, 0, none⟩) HXl).trans rX0; have s1 := (hSw.cell (p := ⟨X0, 1, none⟩) HXl).trans rX1; have s2 := (hSw.cell (p := ⟨X0, 2, none⟩) HXl).trans rX2; go_simp; (try with_reducible rfl))); (try simp only [Act.put, List.setIfInBounds_toArray, List.set_cons_zero, List.set_cons_succ])) | (apply ord_skip rfl (by rfl) (by rfl) (fun _ => hBe); (try simp only [Act.put, List.setIfInBounds_toArray, List.set_cons_zero, List.set_cons_succ])))
      refine ord_nil ?_
      clear he HXl HAl rA0 rX0 rA1 rX1 rA2 rX2
      obtain ⟨t10, hnz⟩ : ∃ x, x = wd' := ⟨_, rfl⟩
      subst hnz
      have hb := hBe
      clear hBe
      replace kw := kw.trans (hb.mono kw.size)
      replace bA0 := bA0.all hb
      replace sA0 := Nat.lt_of_lt_of_le sA0 hb.size
      replace bA1 := bA1.all hb
      replace sA1 := Nat.lt_of_lt_of_le sA1 hb.size
      replace bX0 := bX0.all hb
      replace bX1 := bX1.all hb
      replace EX0 := metric_below EX0 hb
      replace EX1 := metric_below EX1 hb
      replace Eg := ints_below Eg hb
      replace Rw := ints_keep Rw (hb.mono Zt3) (Nat.le_refl _)
      replace Zt3 := Nat.le_trans Zt3 hb.size
      replace Zt4 := Nat.le_trans Zt4 hb.size
      replace Zt5 := Nat.le_trans Zt5 hb.size
      replace Zt6 := Nat.le_trans Zt6 hb.size
      replace Zt7 := Nat.le_trans Zt7 hb.size
      replace Zt8 := Nat.le_trans Zt8 hb.size
      clear hb
      have bA0c0 := bA0.cell 0
      have bA0c1 := bA0.cell 1
      have bA0c2 := bA0.cell 2
      have bA1c0 := bA1.cell 0
      have bA1c1 := bA1.cell 1
      have bA1c2 := bA1.cell 2
      have bX0c0 := bX0.cell 0
      have bX0c1 := bX0.cell 1
      have bX0c2 := bX0.cell 2
      have bX1c0 := bX1.cell 0
      have bX1c1 := bX1.cell 1
      have bX1c2 := bX1.cell 2
      have bX0lt := bX0.lt
      have bX1lt := bX1.lt
      go_wp2_with fail
      clear bA0c0 bA0c1 bA0c2 bA1c0 bA1c1 bA1c2 bX0c0 bX0c1 bX0c2 bX1c0 bX1c1 bX1c2 bX0lt bX1lt
      have HXl := bX1.lt
      have HAl := bA1.lt
      have rA0 := bA1.cell 0
      have rX0 := bX1.cell 0
      have rA1 := bA1.cell 1
      have rX1 := bX1.cell 1
      have rA2 := bA1.cell 2
      have rX2 := bX1.cell 2
      refine wp_region_be [0, 1, 2, 3, 4] 5 t10.heap.size t10 (by kernel_rfl) (by kernel_rfl) (by kernel_rfl) (fun _ _ _ _ _ h => h) (Below.refl _ _) (fun wd hBe => ?_)
      repeat (first | (apply ord_tk rfl (by rfl) (by rfl) (by rfl); (focus (intro wx hSw; have r0 := (hSw.cell (p := ⟨w.heap.size + 1, 0, none⟩) HAl).trans rA0; have r1 := (hSw.cell (p := ⟨w.heap.size + 1, 1, none⟩) HAl).trans rA1; have r2 := (hSw.cell (p := ⟨w.heap.size + 1, 2, none⟩) HAl).trans rA2; have s0 := (hSw.cell (p := ⟨X1, 0, none⟩) HXl).trans rX0; have s1 := (hSw.cell (p := ⟨X1, 1, none⟩) HXl).trans rX1; have s2 := (hSw.cell (p := ⟨X1, 2, none⟩) HXl).trans rX2; go_simp; (try with_reducible rfl))); (try simp only [Act.put, List.setIfInBounds_toArray, List.set_cons_zero, List.set_cons_succ])) | (apply ord_skip rfl (by rfl) (by rfl) (fun _ => hBe); (try simp only [Act.put, List.setIfInBounds_toArray, List.set_cons_zero, List.set_cons_succ])))
      refine ord_do rfl (by rfl) (by rfl) (fun K hK => ?_)
      go_simp
      have kq := kw.trans (hBe.mono kw.size)
      refine (metric_to _ _ x1 (metric_keep HA1 kq kq.size) SH1).mono ?_
      rintro e wq ⟨u, rfl, he, hb⟩
      obtain ⟨Ar1, nr1, cr1, zr1, Dr1, mr1, er1, rfl, hf⟩ := metric_form (metric_rd he)
      clear hf
      replace hBe := hBe.trans (hb.mono hBe.size)
      clear hb kq
      refine hK.out _ _ (fun _ => hBe) ?_
      (try simp only [Act.put, List.setIfInBounds_toArray, List.set_cons_zero, List.set_cons_succ])
      clear hK K
      repeat (first | (apply ord_tk rfl (by rfl) (by rfl) (by rfl); (focus (intro wx hSw; have r0 := (hSw.cell (p := ⟨w.heap.size + 1, 0, none⟩) HAl).trans rA0; have r1 := (hSw.cell (p := ⟨w.heap.size + 1, 1, none⟩) HAl).trans rA1; have r2 := (hSw.cell (p := ⟨w.heap.size + 1, 2, none⟩) HAl).trans rA2; have s0 := (hSw.cell (p := ⟨X1, 0, none⟩) HXl).trans rX0; have s1 := (hSw.cell (p := ⟨X1, 1, none⟩) HXl).trans rX1; have s2 := (hSw.cell (p := ⟨X1, 2, none⟩) HXl).trans rX2; go_simp; (try with_reducible rfl))); (try simp only [Act.put, List.setIfInBounds_toArray, List.set_cons_zero, List.set_cons_succ])) | (apply ord_skip rfl (by rfl) (by rfl) (fun _ => hBe); (try simp only [Act.put, List.setIfInBounds_toArray, List.set_cons_zero, List.set_cons_succ])))
      refine ord_do rfl (by rfl) (by rfl) (fun K hK => ?_)
      go_simp
      refine (metric_eq _ _ _ x1 x1 (metric_rd (metric_below EX1 hBe)) (metric_rd he) SH1).mono ?_
      rintro e wd' ⟨rfl, hwd⟩
      replace hBe := hBe.trans (hwd.mono hBe.size)
      clear hwd
      refine hK.out _ _ (fun _ => hBe) ?_
      (try simp only [Act.put, List.setIfInBounds_toArray, List.set_cons_zero, List.set_cons_succ])
      clear hK K
      simp only [beq_self_eq_true]
      repeat (first | (apply ord_tk rfl (by rfl) (by rfl) (by rfl); (focus (intro wx hSw; have r0 := (hSw.cell (p := ⟨w.heap.size + 1, 0, none⟩) HAl).trans rA0; have r1 := (hSw.cell (p := ⟨w.heap.size + 1, 1, none⟩) HAl).trans rA1; have r2 := (hSw.cell (p := ⟨w.heap.size + 1, 2, none⟩) HAl).trans rA2; have s0 := (hSw.cell (p := ⟨X1, 0, none⟩) HXl).trans rX0; have s1 := (hSw.cell (p := ⟨X1, 1, none⟩) HXl).trans rX1; have s2 := (hSw.cell (p := ⟨X1, 2, none⟩) HXl).trans rX2; go_simp; (try with_reducible rfl))); (try simp only [Act.put, List.setIfInBounds_toArray, List.set_cons_zero, List.set_cons_succ])) | (apply ord_skip rfl (by rfl) (by rfl) (fun _ => hBe); (try simp only [Act.put, List.setIfInBounds_toArray, List.set_cons_zero, List.set_cons_succ])))
      refine ord_nil ?_
      clear he HXl HAl rA0 rX0 rA1 rX1 rA2 rX2
      obtain ⟨t11, hnz⟩ : ∃ x, x = wd' := ⟨_, rfl⟩
      subst hnz
      have hb := hBe
      clear hBe
      replace kw := kw.trans (hb.mono kw.size)
      replace bA0 := bA0.all hb
      replace sA0 := Nat.lt_of_lt_of_le sA0 hb.size
      replace bA1 := bA1.all hb
      replace sA1 := Nat.lt_of_lt_of_le sA1 hb.size
      replace bX0 := bX0.all hb
      replace bX1 := bX1.all hb
      replace EX0 := metric_below EX0 hb
      replace EX1 := metric_below EX1 hb
      replace Eg := ints_below Eg hb
      replace Rw := ints_keep Rw (hb.mono Zt3) (Nat.le_refl _)
      replace Zt3 := Nat.le_trans Zt3 hb.size
      replace Zt4 := Nat.le_trans Zt4 hb.size
      replace Zt5 := Nat.le_trans Zt5 hb.size
      replace Zt6 := Nat.le_trans Zt6 hb.size
      replace Zt7 := Nat.le_trans Zt7 hb.size
      replace Zt8 := Nat.le_trans Zt8 hb.size
      clear hb
      have bA0c0 := bA0.cell 0
      have bA0c1 := bA0.cell 1
      have bA0c2 := bA0.cell 2
      have bA1c0 := bA1.cell 0
      have bA1c1 := bA1.cell 1
      have bA1c2 := bA1.cell 2
      have bX0c0 := bX0.cell 0
      have bX0c1 := bX0.cell 1
      have bX0c2 := bX0.cell 2
      have bX1c0 := bX1.cell 0
      have bX1c1 := bX1.cell 1
      have bX1c2 := bX1.cell 2
      have bX0lt := bX0.lt
      have bX1lt := bX1.lt
      go_wp2_with fail
      clear bA0c0 bA0c1 bA0c2 bA1c0 bA1c1 bA1c2 bX0c0 bX0c1 bX0c2 bX1c0 bX1c1 bX1c2 bX0lt bX1lt
      refine (metric_mark _ _ x0 _ 1 EX0 (by omega) (by omega) (by omega)).mono ?_
      rintro e t12 ⟨rfl, he, hw⟩
      have hbb := hw.below (B := t3.heap.size) (fun b hf => hf.1) Zt3
      replace kw := kw.trans (hbb.mono Kt3)
      replace bA0 := bA0.below hbb (by omega)
      replace sA0 := Nat.lt_of_lt_of_le sA0 hw.size
      replace bA1 := bA1.below hbb (by omega)
      replace sA1 := Nat.lt_of_lt_of_le sA1 hw.size
      replace bX0 := hw.blk bX0 (fun hf => by have a1 := hf.1; have a2 := hf.2; omega)
      replace bX1 := hw.blk bX1 (fun hf => by have a1 := hf.1; have a2 := hf.2; omega)
      replace EX1 := metric_wr EX1 hw (fun b h1 h2 => by have a1 := h1.1; have a2 := h1.2; have a3 := h2.1; have a4 := h2.2; omega)
      replace Eg := ints_wr Eg hw (fun b h1 h2 => by have a1 := h1.1; have a2 := h1.2; have a3 := h2.1; have a4 := h2.2; omega)
      replace Rw := ints_keep Rw (hbb.mono (by omega)) (Nat.le_refl _)
      replace Zt3 := Nat.le_trans Zt3 hw.size
      replace Zt4 := Nat.le_trans Zt4 hw.size
      replace Zt5 := Nat.le_trans Zt5 hw.size
      replace Zt6 := Nat.le_trans Zt6 hw.size
      replace Zt7 := Nat.le_trans Zt7 hw.size
      replace Zt8 := Nat.le_trans Zt8 hw.size
      replace EX0 := he
      clear hbb hw he
      obtain ⟨kk0, hkk0, hkk0a, hkk0b⟩ : ∃ z : Int, 1 + (metric_sum x0 : Int) = z ∧ 0 ≤ z ∧ z ≤ 4000000 := ⟨_, rfl, by omega, by omega⟩
      rw [hkk0]
      have Hkk0 := hide hkk0
      clear hkk0
      clear EX0
      have bA0c0 := bA0.cell 0
      have bA0c1 := bA0.cell 1
      have bA0c2 := bA0.cell 2
      have bA1c0 := bA1.cell 0
      have bA1c1 := bA1.cell 1
      have bA1c2 := bA1.cell 2
      have bX0c0 := bX0.cell 0
      have bX0c1 := bX0.cell 1
      have bX0c2 := bX0.cell 2
      have bX1c0 := bX1.cell 0
      have bX1c1 := bX1.cell 1
      have bX1c2 := bX1.cell 2
      have bX0lt := bX0.lt
      have bX1lt := bX1.lt
      go_wp2_with fail
      clear bA0c0 bA0c1 bA0c2 bA1c0 bA1c1 bA1c2 bX0c0 bX0c1 bX0c2 bX1c0 bX1c1 bX1c2 bX0lt bX1lt
      refine (metric_mark _ _ x1 _ kk0 EX1 (by omega) (by omega) (by omega)).mono ?_
      rintro e t13 ⟨rfl, he, hw⟩
      have hbb := hw.below (B := t5.heap.size) (fun b hf => hf.1) Zt5
      replace kw := kw.trans (hbb.mono Kt5)
      replace bA0 := bA0.below hbb (by omega)
      replace sA0 := Nat.lt_of_lt_of_le sA0 hw.size
      replace bA1 := bA1.below hbb (by omega)
      replace sA1 := Nat.lt_of_lt_of_le sA1 hw.size
      replace bX0 := hw.blk bX0 (fun hf => by have a1 := hf.1; have a2 := hf.2; omega)
      replace bX1 := hw.blk bX1 (fun hf => by have a1 := hf.1; have a2 := hf.2; omega)
      replace Eg := ints_wr Eg hw (fun b h1 h2 => by have a1 := h1.1; have a2 := h1.2; have a3 := h2.1; have a4 := h2.2; omega)
      replace Rw := ints_keep Rw (hbb.mono (by omega)) (Nat.le_refl _)
      replace Zt3 := Nat.le_trans Zt3 hw.size
      replace Zt4 := Nat.le_trans Zt4 hw.size
      replace Zt5 := Nat.le_trans Zt5 hw.size
      replace Zt6 := Nat.le_trans Zt6 hw.size
      replace Zt7 := Nat.le_trans Zt7 hw.size
      replace Zt8 := Nat.le_trans Zt8 hw.size
      replace EX1 := he
      clear hbb hw he
      obtain ⟨kk1, hkk1, hkk1a, hkk1b⟩ : ∃ z : Int, kk0 + (metric_sum x1 : Int) = z ∧ 0 ≤ z ∧ z ≤ 8000000 := ⟨_, rfl, by omega, by omega⟩
      rw [hkk1]
      have Hkk1 := hide hkk1
      clear hkk1
      clear EX1
      have bA0c0 := bA0.cell 0
      have bA0c1 := bA0.cell 1
      have bA0c2 := bA0.cell 2
      have bA1c0 := bA1.cell 0
      have bA1c1 := bA1.cell 1
      have bA1c2 := bA1.cell 2
      have bX0c0 := bX0.cell 0
      have bX0c1 := bX0.cell 1
      have bX0c2 := bX0.cell 2
      have bX1c0 := bX1.cell 0
      have bX1c1 := bX1.cell 1
      have bX1c2 := bX1.cell 2
      have bX0lt := bX0.lt
      have bX1lt := bX1.lt
      go_wp2_with fail
      clear bA0c0 bA0c1 bA0c2 bA1c0 bA1c1 bA1c2 bX0c0 bX0c1 bX0c2 bX1c0 bX1c1 bX1c2 bX0lt bX1lt
      refine (ints_eq _ _ _ y0 y0 (ints_rd Eg) (ints_keep Rw (Below.refl _ _) Zt3) SY).mono ?_
      rintro e t14 ⟨rfl, hb⟩
      simp only [beq_self_eq_true]
      replace kw := kw.trans (hb.mono kw.size)
      replace bA0 := bA0.all hb
      replace sA0 := Nat.lt_of_lt_of_le sA0 hb.size
      replace bA1 := bA1.all hb
      replace sA1 := Nat.lt_of_lt_of_le sA1 hb.size
      replace bX0 := bX0.all hb
      replace bX1 := bX1.all hb
      replace Eg := ints_below Eg hb
      replace Rw := ints_keep Rw (hb.mono Zt3) (Nat.le_refl _)
      replace Zt3 := Nat.le_trans Zt3 hb.size
      replace Zt4 := Nat.le_trans Zt4 hb.size
      replace Zt5 := Nat.le_trans Zt5 hb.size
      replace Zt6 := Nat.le_trans Zt6 hb.size
      replace Zt7 := Nat.le_trans Zt7 hb.size
      replace Zt8 := Nat.le_trans Zt8 hb.size
      clear hb
      have bA0c0 := bA0.cell 0
      have bA0c1 := bA0.cell 1
      have bA0c2 := bA0.cell 2
      have bA1c0 := bA1.cell 0
      have bA1c1 := bA1.cell 1
      have bA1c2 := bA1.cell 2
      have bX0c0 := bX0.cell 0
      have bX0c1 := bX0.cell 1
      have bX0c2 := bX0.cell 2
      have bX1c0 := bX1.cell 0
      have bX1c1 := bX1.cell 1
      have bX1c2 := bX1.cell 2
      have bX0lt := bX0.lt
      have bX1lt := bX1.lt
      go_wp2_with fail
      clear bA0c0 bA0c1 bA0c2 bA1c0 bA1c1 bA1c2 bX0c0 bX0c1 bX0c2 bX1c0 bX1c1 bX1c2 bX0lt bX1lt
      refine (ints_mark _ _ y0 _ 1 Eg (by omega) (by omega) (by omega)).mono ?_
      rintro e t15 ⟨rfl, he, hw⟩
      have hbb := hw.below (B := t7.heap.size) (fun b hf => hf.1) Zt7
      replace kw := kw.trans (hbb.mono Kt7)
      replace bA0 := bA0.below hbb (by omega)
      replace sA0 := Nat.lt_of_lt_of_le sA0 hw.size
      replace bA1 := bA1.below hbb (by omega)
      replace sA1 := Nat.lt_of_lt_of_le sA1 hw.size
      replace bX0 := hw.blk bX0 (fun hf => by have a1 := hf.1; have a2 := hf.2; omega)
      replace bX1 := hw.blk bX1 (fun hf => by have a1 := hf.1; have a2 := hf.2; omega)
      replace Rw := ints_keep Rw (hbb.mono (by omega)) (Nat.le_refl _)
      replace Zt3 := Nat.le_trans Zt3 hw.size
      replace Zt4 := Nat.le_trans Zt4 hw.size
      replace Zt5 := Nat.le_trans Zt5 hw.size
      replace Zt6 := Nat.le_trans Zt6 hw.size
      replace Zt7 := Nat.le_trans Zt7 hw.size
      replace Zt8 := Nat.le_trans Zt8 hw.size
      replace Eg := he
      clear hbb hw he
      obtain ⟨mm, hmm, hmma, hmmb⟩ : ∃ z : Int, 1 + (ints_sum y0 : Int) = z ∧ 0 ≤ z ∧ z ≤ 4000000 := ⟨_, rfl, by omega, by omega⟩
      rw [hmm]
      have Hmm := hide hmm
      clear hmm
      have bA0c0 := bA0.cell 0
      have bA0c1 := bA0.cell 1
      have bA0c2 := bA0.cell 2
      have bA1c0 := bA1.cell 0
      have bA1c1 := bA1.cell 1
      have bA1c2 := bA1.cell 2
      have bX0c0 := bX0.cell 0
      have bX0c1 := bX0.cell 1
      have bX0c2 := bX0.cell 2
      have bX1c0 := bX1.cell 0
      have bX1c1 := bX1.cell 1
      have bX1c2 := bX1.cell 2
      have bX0lt := bX0.lt
      have bX1lt := bX1.lt
      go_wp2_with fail
      clear bA0c0 bA0c1 bA0c2 bA1c0 bA1c1 bA1c2 bX0c0 bX0c1 bX0c2 bX1c0 bX1c1 bX1c2 bX0lt bX1lt
      refine (ints_heldc _ _ _ 1 (ints_rd Eg) (ints_shmk SY) (by omega) (by omega)).mono ?_
      rw [ints_heldmk1, Hmm.out]
      rintro e t16 ⟨rfl, hb⟩
      replace kw := kw.trans (hb.mono kw.size)
      replace bA0 := bA0.all hb
      replace sA0 := Nat.lt_of_lt_of_le sA0 hb.size
      replace bA1 := bA1.all hb
      replace sA1 := Nat.lt_of_lt_of_le sA1 hb.size
      replace bX0 := bX0.all hb
      replace bX1 := bX1.all hb
      replace Eg := ints_below Eg hb
      replace Rw := ints_keep Rw (hb.mono Zt3) (Nat.le_refl _)
      replace Zt3 := Nat.le_trans Zt3 hb.size
      replace Zt4 := Nat.le_trans Zt4 hb.size
      replace Zt5 := Nat.le_trans Zt5 hb.size
      replace Zt6 := Nat.le_trans Zt6 hb.size
      replace Zt7 := Nat.le_trans Zt7 hb.size
      replace Zt8 := Nat.le_trans Zt8 hb.size
      clear hb
      have bA0c0 := bA0.cell 0
      have bA0c1 := bA0.cell 1
      have bA0c2 := bA0.cell 2
      have bA1c0 := bA1.cell 0
      have bA1c1 := bA1.cell 1
      have bA1c2 := bA1.cell 2
      have bX0c0 := bX0.cell 0
      have bX0c1 := bX0.cell 1
      have bX0c2 := bX0.cell 2
      have bX1c0 := bX1.cell 0
      have bX1c1 := bX1.cell 1
      have bX1c2 := bX1.cell 2
      have bX0lt := bX0.lt
      have bX1lt := bX1.lt
      go_wp2_with fail
      clear bA0c0 bA0c1 bA0c2 bA1c0 bA1c1 bA1c2 bX0c0 bX0c1 bX0c2 bX1c0 bX1c1 bX1c2 bX0lt bX1lt
      have HAl0 := bA0.lt
      have rA0c0 := bA0.cell 0
      have rA0c1 := bA0.cell 1
      have rA0c2 := bA0.cell 2
      have HAl1 := bA1.lt
      have rA1c0 := bA1.cell 0
      have rA1c1 := bA1.cell 1
      have rA1c2 := bA1.cell 2
      refine wp_region_be [0, 2, 1, 3, 4, 5, 6, 7, 8, 9] 9 t16.heap.size t16 (by kernel_rfl) (by kernel_rfl) (by kernel_rfl) (fun _ _ _ _ _ h => h) (Below.refl _ _) (fun wd hBe => ?_)
      repeat (first | (apply ord_tk rfl (by rfl) (by rfl) (by rfl); (focus (intro wx hSw; have r00 := (hSw.cell (p := ⟨w.heap.size, 0, none⟩) HAl0).trans rA0c0; have r01 := (hSw.cell (p := ⟨w.heap.size, 1, none⟩) HAl0).trans rA0c1; have r02 := (hSw.cell (p := ⟨w.heap.size, 2, none⟩) HAl0).trans rA0c2; have r10 := (hSw.cell (p := ⟨w.heap.size + 1, 0, none⟩) HAl1).trans rA1c0; have r11 := (hSw.cell (p := ⟨w.heap.size + 1, 1, none⟩) HAl1).trans rA1c1; have r12 := (hSw.cell (p := ⟨w.heap.size + 1, 2, none⟩) HAl1).trans rA1c2; go_simp; (try with_reducible rfl))); (try simp only [Act.put, List.setIfInBounds_toArray, List.set_cons_zero, List.set_cons_succ])) | (apply ord_skip rfl (by rfl) (by rfl) (fun _ => hBe); (try simp only [Act.put, List.setIfInBounds_toArray, List.set_cons_zero, List.set_cons_succ])))
      refine ord_do rfl (by rfl) (by rfl) (fun K hK => ?_)
      go_simp
      have kq := kw.trans (hBe.mono kw.size)
      refine (metric_to _ _ x0 (metric_keep HA0 kq kq.size) SH0).mono ?_
      rintro e t17 ⟨u, rfl, he, hb⟩
      obtain ⟨Ah0, nh0, ch0, zh0, Dh0, mh0, eh0, rfl, hf⟩ := metric_form (metric_rd he)
      clear hf
      replace hBe := hBe.trans (hb.mono hBe.size)
      have Eqh0 := he
      clear he hb kq
      refine hK.out _ _ (fun _ => hBe) ?_
      (try simp only [Act.put, List.setIfInBounds_toArray, List.set_cons_zero, List.set_cons_succ])
      clear hK K
      repeat (first | (apply ord_tk rfl (by rfl) (by rfl) (by rfl); (focus (intro wx hSw; have r00 := (hSw.cell (p := ⟨w.heap.size, 0, none⟩) HAl0).trans rA0c0; have r01 := (hSw.cell (p := ⟨w.heap.size, 1, none⟩) HAl0).trans rA0c1; have r02 := (hSw.cell (p := ⟨w.heap.size, 2, none⟩) HAl0).trans rA0c2; have r10 := (hSw.cell (p := ⟨w.heap.size + 1, 0, none⟩) HAl1).trans rA1c0; have r11 := (hSw.cell (p := ⟨w.heap.size + 1, 1, none⟩) HAl1).trans rA1c1; have r12 := (hSw.cell (p := ⟨w.heap.size + 1, 2, none⟩) HAl1).trans rA1c2; go_simp; (try with_reducible rfl))); (try simp only [Act.put, List.setIfInBounds_toArray, List.set_cons_zero, List.set_cons_succ])) | (apply ord_skip rfl (by rfl) (by rfl) (fun _ => hBe); (try simp only [Act.put, List.setIfInBounds_toArray, List.set_cons_zero, List.set_cons_succ])))
      refine ord_do rfl (by rfl) (by rfl) (fun K hK => ?_)
      go_simp
      have kq := kw.trans (hBe.mono kw.size)
      refine (metric_to _ _ x1 (metric_keep HA1 kq kq.size) SH1).mono ?_
      rintro e t18 ⟨u, rfl, he, hb⟩
      obtain ⟨Ah1, nh1, ch1, zh1, Dh1, mh1, eh1, rfl, hf⟩ := metric_form (metric_rd he)
      clear hf
      replace Eqh0 := metric_below Eqh0 hb
      replace hBe := hBe.trans (hb.mono hBe.size)
      have Eqh1 := he
      clear he hb kq
      refine hK.out _ _ (fun _ => hBe) ?_
      (try simp only [Act.put, List.setIfInBounds_toArray, List.set_cons_zero, List.set_cons_succ])
      clear hK K
      repeat (first | (apply ord_tk rfl (by rfl) (by rfl) (by rfl); (focus (intro wx hSw; have r00 := (hSw.cell (p := ⟨w.heap.size, 0, none⟩) HAl0).trans rA0c0; have r01 := (hSw.cell (p := ⟨w.heap.size, 1, none⟩) HAl0).trans rA0c1; have r02 := (hSw.cell (p := ⟨w.heap.size, 2, none⟩) HAl0).trans rA0c2; have r10 := (hSw.cell (p := ⟨w.heap.size + 1, 0, none⟩) HAl1).trans rA1c0; have r11 := (hSw.cell (p := ⟨w.heap.size + 1, 1, none⟩) HAl1).trans rA1c1; have r12 := (hSw.cell (p := ⟨w.heap.size + 1, 2, none⟩) HAl1).trans rA1c2; go_simp; (try with_reducible rfl))); (try simp only [Act.put, List.setIfInBounds_toArray, List.set_cons_zero, List.set_cons_succ])) | (apply ord_skip rfl (by rfl) (by rfl) (fun _ => hBe); (try simp only [Act.put, List.setIfInBounds_toArray, List.set_cons_zero, List.set_cons_succ])))
      refine ord_do rfl (by rfl) (by rfl) (fun K hK => ?_)
      go_simp
      have kq := kw.trans (hBe.mono kw.size)
      have hcl := (implIO_c t18 _ x0 (metric_rd Eqh0) SH0 _ x1 (metric_rd Eqh1) SH1)
      rw [HY0.out, HY1.out] at hcl
      have HCL := hide hcl
      clear hcl
      refine HCL.out.mono ?_
      rintro e t19 ⟨u, rfl, he, hb⟩
      clear HCL
      obtain ⟨Ah, nh, ch, rfl, hf⟩ := ints_form (ints_rd he)
      clear hf
      replace hBe := hBe.trans (hb.mono hBe.size)
      clear hb kq Eqh0 Eqh1
      refine hK.out _ _ (fun _ => hBe) ?_
      (try simp only [Act.put, List.setIfInBounds_toArray, List.set_cons_zero, List.set_cons_succ])
      clear hK K
      repeat (first | (apply ord_tk rfl (by rfl) (by rfl) (by rfl); (focus (intro wx hSw; have r00 := (hSw.cell (p := ⟨w.heap.size, 0, none⟩) HAl0).trans rA0c0; have r01 := (hSw.cell (p := ⟨w.heap.size, 1, none⟩) HAl0).trans rA0c1; have r02 := (hSw.cell (p := ⟨w.heap.size, 2, none⟩) HAl0).trans rA0c2; have r10 := (hSw.cell (p := ⟨w.heap.size + 1, 0, none⟩) HAl1).trans rA1c0; have r11 := (hSw.cell (p := ⟨w.heap.size + 1, 1, none⟩) HAl1).trans rA1c1; have r12 := (hSw.cell (p := ⟨w.heap.size + 1, 2, none⟩) HAl1).trans rA1c2; go_simp; (try with_reducible rfl))); (try simp only [Act.put, List.setIfInBounds_toArray, List.set_cons_zero, List.set_cons_succ])) | (apply ord_skip rfl (by rfl) (by rfl) (fun _ => hBe); (try simp only [Act.put, List.setIfInBounds_toArray, List.set_cons_zero, List.set_cons_succ])))
      (first | (refine ord_do rfl (by rfl) (by rfl) (fun K hK => ?_); go_simp; refine hK.out _ _ (fun h => absurd h (by omega)) ?_; (try simp only [Act.put, List.setIfInBounds_toArray, List.set_cons_zero, List.set_cons_succ]); clear hK K) | skip)
      (first | (refine ord_do rfl (by rfl) (by rfl) (fun K hK => ?_); go_simp; refine hK.out _ _ (fun h => absurd h (by omega)) ?_; (try simp only [Act.put, List.setIfInBounds_toArray, List.set_cons_zero, List.set_cons_succ]); clear hK K) | skip)
      refine ord_nil ?_
      have hb := hBe
      clear hBe HAl0 rA0c0 rA0c1 rA0c2 HAl1 rA1c0 rA1c1 rA1c2
      replace kw := kw.trans (hb.mono kw.size)
      replace bA0 := bA0.all hb
      replace sA0 := Nat.lt_of_lt_of_le sA0 hb.size
      replace bA1 := bA1.all hb
      replace sA1 := Nat.lt_of_lt_of_le sA1 hb.size
      replace bX0 := bX0.all hb
      replace bX1 := bX1.all hb
      replace Eg := ints_below Eg hb
      replace Rw := ints_keep Rw (hb.mono Zt3) (Nat.le_refl _)
      replace Zt3 := Nat.le_trans Zt3 hb.size
      replace Zt4 := Nat.le_trans Zt4 hb.size
      replace Zt5 := Nat.le_trans Zt5 hb.size
      replace Zt6 := Nat.le_trans Zt6 hb.size
      replace Zt7 := Nat.le_trans Zt7 hb.size
      replace Zt8 := Nat.le_trans Zt8 hb.size
      clear hb
      have Eh := he
      clear he
      have bA0c0 := bA0.cell 0
      have bA0c1 := bA0.cell 1
      have bA0c2 := bA0.cell 2
      have bA1c0 := bA1.cell 0
      have bA1c1 := bA1.cell 1
      have bA1c2 := bA1.cell 2
      have bX0c0 := bX0.cell 0
      have bX0c1 := bX0.cell 1
      have bX0c2 := bX0.cell 2
      have bX1c0 := bX1.cell 0
      have bX1c1 := bX1.cell 1
      have bX1c2 := bX1.cell 2
      have bX0lt := bX0.lt
      have bX1lt := bX1.lt
      go_wp2_with fail
      clear bA0c0 bA0c1 bA0c2 bA1c0 bA1c1 bA1c2 bX0c0 bX0c1 bX0c2 bX1c0 bX1c1 bX1c2 bX0lt bX1lt
      refine (ints_eq _ _ _ y0 y0 (ints_rd Eh) (ints_keep Rw (Below.refl _ _) Zt3) SY).mono ?_
      rintro e t20 ⟨rfl, hb⟩
      simp only [beq_self_eq_true]
      replace kw := kw.trans (hb.mono kw.size)
      replace bA0 := bA0.all hb
      replace sA0 := Nat.lt_of_lt_of_le sA0 hb.size
      replace bA1 := bA1.all hb
      replace sA1 := Nat.lt_of_lt_of_le sA1 hb.size
      replace bX0 := bX0.all hb
      replace bX1 := bX1.all hb
      replace Eg := ints_below Eg hb
      replace Eh := ints_below Eh hb
      replace Rw := ints_keep Rw (hb.mono Zt3) (Nat.le_refl _)
      replace Zt3 := Nat.le_trans Zt3 hb.size
      replace Zt4 := Nat.le_trans Zt4 hb.size
      replace Zt5 := Nat.le_trans Zt5 hb.size
      replace Zt6 := Nat.le_trans Zt6 hb.size
      replace Zt7 := Nat.le_trans Zt7 hb.size
      replace Zt8 := Nat.le_trans Zt8 hb.size
      clear hb
      have bA0c0 := bA0.cell 0
      have bA0c1 := bA0.cell 1
      have bA0c2 := bA0.cell 2
      have bA1c0 := bA1.cell 0
      have bA1c1 := bA1.cell 1
      have bA1c2 := bA1.cell 2
      have bX0c0 := bX0.cell 0
      have bX0c1 := bX0.cell 1
      have bX0c2 := bX0.cell 2
      have bX1c0 := bX1.cell 0
      have bX1c1 := bX1.cell 1
      have bX1c2 := bX1.cell 2
      have bX0lt := bX0.lt
      have bX1lt := bX1.lt
      go_wp2_with fail
      clear bA0c0 bA0c1 bA0c2 bA1c0 bA1c1 bA1c2 bX0c0 bX0c1 bX0c2 bX1c0 bX1c1 bX1c2 bX0lt bX1lt
      refine (ints_heldc _ _ _ 1 (ints_rd Eg) (ints_shmk SY) (by omega) (by omega)).mono ?_
      rw [ints_heldmk1, Hmm.out]
      rintro e t21 ⟨rfl, hb⟩
      replace kw := kw.trans (hb.mono kw.size)
      replace bA0 := bA0.all hb
      replace sA0 := Nat.lt_of_lt_of_le sA0 hb.size
      replace bA1 := bA1.all hb
      replace sA1 := Nat.lt_of_lt_of_le sA1 hb.size
      replace bX0 := bX0.all hb
      replace bX1 := bX1.all hb
      replace Eg := ints_below Eg hb
      replace Eh := ints_below Eh hb
      replace Rw := ints_keep Rw (hb.mono Zt3) (Nat.le_refl _)
      replace Zt3 := Nat.le_trans Zt3 hb.size
      replace Zt4 := Nat.le_trans Zt4 hb.size
      replace Zt5 := Nat.le_trans Zt5 hb.size
      replace Zt6 := Nat.le_trans Zt6 hb.size
      replace Zt7 := Nat.le_trans Zt7 hb.size
      replace Zt8 := Nat.le_trans Zt8 hb.size
      clear hb
      go_wp2_with fail
      go_ret
      exact ⟨rfl, kw⟩
end Go.Proofs.Ytkekgipeagchcaa
