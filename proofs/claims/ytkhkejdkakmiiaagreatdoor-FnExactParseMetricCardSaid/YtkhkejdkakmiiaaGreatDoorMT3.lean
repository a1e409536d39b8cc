
/- Texts of metrics: the reference's l10List, l10Text, the program's metricText. -/
import Derived.Test.YtkhkejdkakmiiaaGreatDoorMT2
namespace Go.Proofs.YtkhkejdkakmiiaaGreatDoor
open Go Go.RowKit Go.Shelf
set_option linter.unusedSimpArgs false
set_option linter.unusedVariables false
set_option maxRecDepth 100000
theorem join_snoc (xs : List (List UInt8)) (y sep : List UInt8) (h : xs ≠ []) : Lib.join (xs ++ [y]) sep = Lib.join xs sep ++ sep ++ y := by
  unfold Lib.join
  induction xs with
  | nil => exact absurd rfl h
  | cons x r ih =>
    cases r with
    | nil => simp [List.intercalate]
    | cons z r =>
      have := ih (by simp)
      simp only [List.intercalate, List.cons_append, List.intersperse_cons_cons, List.flatten_cons] at this ⊢
      rw [this]
      simp
/-- A text under construction. -/
def jb (xs : List Int) : ByteArray := ⟨(joinT xs).toArray⟩
theorem jb_size (xs : List Int) (h : ∀ x ∈ xs, i64ok x) : (jb xs).size ≤ 22 * xs.length := by
  have := joinT_len xs h
  unfold jb
  rw [Lib.size_eq]
  simpa using this
theorem jb_one (x : Int) : jb [x] = dec x := by
  unfold jb joinT dec
  rw [List.map_cons, List.map_nil, Lib.join_one]; rfl
theorem jb_snoc (xs : List Int) (x : Int) (h : xs ≠ []) : jb xs ++ ⟨#[32]⟩ ++ dec x = jb (xs ++ [x]) := by
  unfold jb joinT dec
  rw [List.map_append, List.map_cons, List.map_nil, join_snoc _ _ _ (by simpa using h)]
  apply ByteArray.ext
  simp [decL]
set_option maxHeartbeats 4000000 in
theorem l10List_any (w : World) (B : Nat) (A : Option Addr) (n c : Nat) (xs : List Int) (h : Sl w B A n c xs) (hr : ∀ x ∈ xs, i64ok x) (h0 : ∀ x ∈ xs, 0 ≤ x) (hB : B ≤ w.heap.size) (hn : n ≤ 1048576) :
    Calls Tryz.prog 29 #[.slice A n c] w (Re w (.string (jb xs))) := by
  obtain rfl := h.len
  have HN := hide (show jb (xs.take 0) = ⟨#[]⟩ from rfl)
  go_enter Tryz.func29, Tryz.ntmps29
  go_wp2_with fail
  go_loopw [3, 4] (fun ts i wr => ∃ k : Nat, k ≤ xs.length ∧ i = .int .i64 k ∧ ts = .string (jb (xs.take k)) ∧ Below w.heap.size w wr) (fun _ i _ => xs.length - (intOf i).toNat)
  case atStart => exact ⟨0, by omega, rfl, by rw [HN.out], Below.refl _ _⟩
  case round =>
    obtain ⟨k, hk, rfl, rfl, hBe⟩ := hrel
    have hsz := hBe.size
    by_cases hlt : k < xs.length
    · obtain ⟨b, off, rfl, hb, hc⟩ := h.at_ (by omega)
      have c1 := (hBe.cell (p := ⟨b, off + k, none⟩) (Nat.lt_of_lt_of_le hb hB)).trans (hc k hlt)
      obtain ⟨x, hx⟩ : ∃ x, gi xs k = x := ⟨_, rfl⟩
      have hxr : i64ok x := by rw [← hx]; exact hr _ (gi_mem hlt)
      have hx0 : 0 ≤ x := by rw [← hx]; exact h0 _ (gi_mem hlt)
      have hg : xs[k]? = some x := by
        rw [← hx]; unfold gi; rw [List.getD_eq_getElem?_getD, List.getElem?_eq_getElem hlt]; rfl
      have htk : xs.take (k + 1) = xs.take k ++ [x] := by rw [List.take_add_one, hg]; rfl
      obtain ⟨y, rfl⟩ : ∃ y : Nat, x = y := ⟨x.toNat, by omega⟩
      rw [hx] at c1
      have hy := hxr.2
      have hsd := dec_size hxr
      have hsj : (jb (xs.take k)).size ≤ 22 * k := by
        have := jb_size (xs.take k) (fun x hx => hr x (List.mem_of_mem_take hx))
        rw [List.length_take] at this
        omega
      clear hc hx hg
      by_cases hk0 : k = 0
      · subst hk0
        have hnx := hide (show jb (xs.take (0 + 1)) = dec (y : Int) by rw [htk]; simp [jb_one])
        have e0 : jb (xs.take 0) = ⟨#[]⟩ := rfl
        rw [e0]
        rw [Nat.add_zero] at c1
        clear htk hsj
        have hcat : ¬ 9223372036854775807 < (dec (y : Int)).size := by omega
        go_wp2_with fail
        clear c1
        refine (l01Dec_any y (by omega) _).mono ?_
        rintro e w3 ⟨rfl, hb3⟩
        have hB3 := hBe.trans (hb3.mono hsz)
        go_wp2_with fail
        go_roundw
        case rel => exact ⟨1, by omega, by go_num, by rw [show (1 : Nat) = 0 + 1 from rfl, hnx.out]; (have e9 : (⟨#[]⟩ : ByteArray) ++ dec (y : Int) = dec (y : Int) := by apply ByteArray.ext; simp); rw [e9], hB3⟩
        case measure => simp [intOf] <;> omega
      · have hnx := hide (show jb (xs.take k) ++ ⟨#[32]⟩ ++ dec (y : Int) = jb (xs.take (k + 1)) by rw [htk]; exact jb_snoc _ _ (fun e => hk0 (by have h9 : (xs.take k).length = k := (by rw [List.length_take]; omega); rw [e] at h9; exact h9.symm)))
        clear htk
        obtain ⟨t0, ht0⟩ : ∃ t, jb (xs.take k) = t := ⟨_, rfl⟩
        rw [ht0] at hnx hsj ⊢
        have hkp : 0 < (k : Int) := by omega
        have hcat1 : ¬ 9223372036854775807 < t0.size + 1 := by omega
        have hcat2 : ¬ 9223372036854775807 < t0.size + 1 + (dec (y : Int)).size := by omega
        go_wp2_with fail
        clear c1
        refine (l01Dec_any y (by omega) _).mono ?_
        rintro e w3 ⟨rfl, hb3⟩
        have hB3 := hBe.trans (hb3.mono hsz)
        go_wp2_with fail
        go_roundw
        case rel => exact ⟨k + 1, by omega, by go_num, by rw [← hnx.out], hB3⟩
        case measure => simp [intOf] <;> omega
    · obtain rfl : k = xs.length := by omega
      have HX := hide (show jb (xs.take xs.length) = jb xs by rw [List.take_length])
      go_wp2_with fail
      go_ret
      exact ⟨by rw [← HX.out]; rfl, hBe⟩
/-- The text of a metric. -/
def metText (os : List Int) (D : Int) (vs : List Int) : ByteArray := jb os ++ ⟨#[59]⟩ ++ dec D ++ ⟨#[58]⟩ ++ jb vs
theorem joined_jb (w : World) (B : Nat) (A : Option Addr) (n c : Nat) (xs : List Int) (h : Sl w B A n c xs) (hr : ∀ x ∈ xs, i64ok x) (hB : B ≤ w.heap.size) (hn : n ≤ 1048576) (hT : TbP w) :
    Calls Tryz.prog 41 #[.slice A n c, .string ⟨#[32]⟩] w (Re w (.string (jb xs))) := joined_any w B A n c xs h hr hB hn hT
set_option maxHeartbeats 4000000 in
theorem metricText_any (w : World) (A : Option Addr) (n c : Nat) (os : List Int) (D : Int) (A' : Option Addr) (n' c' : Nat) (vs : List Int) (h : Sl w w.heap.size A n c os) (h' : Sl w w.heap.size A' n' c' vs) (hr : ∀ x ∈ os, i64ok x) (hr' : ∀ x ∈ vs, i64ok x) (hD : i64ok D) (h0 : ∀ x ∈ os, 0 ≤ x) (h0' : ∀ x ∈ vs, 0 ≤ x) (hD0 : 0 ≤ D) (hn : n ≤ 1048576) (hn' : n' ≤ 1048576) (hT : TbP w) :
    Calls Tryz.prog 18 #[.agg #[.slice A n c, .int .i64 D, .slice A' n' c']] w (Re w (.string (metText os D vs))) := by
  have hj1 := jb_size os hr
  have hj2 := jb_size vs hr'
  have hj3 := dec_size hD
  have l1 := h.len
  have l2 := h'.len
  obtain ⟨y, rfl⟩ : ∃ y : Nat, D = y := ⟨D.toNat, by omega⟩
  have hy := hD.2
  go_enter Tryz.func18, Tryz.ntmps18
  go_wp2_with fail
  obtain ⟨W, hW⟩ : ∃ W, w.alloc (.cells #[.slice A n c, .int .i64 (y : Int), .slice A' n' c'] 24) = W := ⟨_, rfl⟩
  have hbW : Below w.heap.size w W := by rw [← hW]; exact (by repeat (first | assumption | exact Below.refl _ _ | apply below_drewN | apply Below.drew | apply Below.alloc | apply Below.setCell | omega | (focus (simp; done)) | (focus (simp; omega))))
  have hszW : w.heap.size < W.heap.size := by rw [← hW]; simp
  have q0 : W.cell? ⟨w.heap.size, 0, none⟩ = some (.slice A n c) := by rw [← hW]; exact (Blk.new _ _ _).cell 0
  have q1 : W.cell? ⟨w.heap.size, 1, none⟩ = some (.int .i64 (y : Int)) := by rw [← hW]; exact (Blk.new _ _ _).cell 1
  have q2 : W.cell? ⟨w.heap.size, 2, none⟩ = some (.slice A' n' c') := by rw [← hW]; exact (Blk.new _ _ _).cell 2
  rw [hW]
  clear hW
  have hE := hide (show jb os ++ ⟨#[59]⟩ ++ dec (y : Int) ++ ⟨#[58]⟩ ++ jb vs = metText os y vs from rfl)
  have g1 : ¬ 9223372036854775807 < (jb os).size + 1 := by omega
  have g2 : ¬ 9223372036854775807 < (jb os).size + 1 + (dec (y : Int)).size := by omega
  have g3 : ¬ 9223372036854775807 < (jb os).size + 1 + (dec (y : Int)).size + 1 := by omega
  have g4 : ¬ 9223372036854775807 < (jb os).size + 1 + (dec (y : Int)).size + 1 + (jb vs).size := by omega
  go_wp2_with fail
  refine wp_region_be [0, 1, 4, 5, 9, 10, 2, 3, 6, 7, 8, 11, 12, 13] 13 W.heap.size W (by kernel_rfl) (by kernel_rfl) (by kernel_rfl) (fun _ _ _ _ _ h => h) (Below.refl _ _) (fun wd hBe => ?_)
  repeat (first | (apply ord_tk rfl (by rfl) (by rfl) (by rfl); (focus (intro wx hSw; have r0 := (hSw.cell (p := ⟨w.heap.size, 0, none⟩) hszW).trans q0; have r1 := (hSw.cell (p := ⟨w.heap.size, 1, none⟩) hszW).trans q1; have r2 := (hSw.cell (p := ⟨w.heap.size, 2, none⟩) hszW).trans q2; go_simp; (try with_reducible rfl))); (try simp only [Act.put, List.setIfInBounds_toArray, List.set_cons_zero, List.set_cons_succ])) | (apply ord_skip rfl (by rfl) (by rfl) (fun _ => hBe); (try simp only [Act.put, List.setIfInBounds_toArray, List.set_cons_zero, List.set_cons_succ])))
  refine ord_do rfl (by rfl) (by rfl) (fun K hK => ?_)
  go_simp
  refine (joined_jb _ _ _ _ _ _ (h.below (hbW.trans (hBe.mono (Nat.le_of_lt hszW)))) hr (hbW.trans (hBe.mono (Nat.le_of_lt hszW))).size hn (hT.bel (hbW.trans (hBe.mono (Nat.le_of_lt hszW))))).mono ?_
  rintro e wd' ⟨rfl, hwd⟩
  replace hBe := hBe.trans (hwd.mono hBe.size)
  clear hwd
  refine hK.out _ _ (fun _ => hBe) ?_
  (try simp only [Act.put, List.setIfInBounds_toArray, List.set_cons_zero, List.set_cons_succ])
  clear hK K
  repeat (first | (apply ord_tk rfl (by rfl) (by rfl) (by rfl); (focus (intro wx hSw; have r0 := (hSw.cell (p := ⟨w.heap.size, 0, none⟩) hszW).trans q0; have r1 := (hSw.cell (p := ⟨w.heap.size, 1, none⟩) hszW).trans q1; have r2 := (hSw.cell (p := ⟨w.heap.size, 2, none⟩) hszW).trans q2; go_simp; (try with_reducible rfl))); (try simp only [Act.put, List.setIfInBounds_toArray, List.set_cons_zero, List.set_cons_succ])) | (apply ord_skip rfl (by rfl) (by rfl) (fun _ => hBe); (try simp only [Act.put, List.setIfInBounds_toArray, List.set_cons_zero, List.set_cons_succ])))
  refine ord_do rfl (by rfl) (by rfl) (fun K hK => ?_)
  go_simp
  refine (decimal_any _ _ hD (hT.bel (hbW.trans (hBe.mono (Nat.le_of_lt hszW))))).mono ?_
  rintro e wd' ⟨rfl, hwd⟩
  replace hBe := hBe.trans (hwd.mono hBe.size)
  clear hwd
  refine hK.out _ _ (fun _ => hBe) ?_
  (try simp only [Act.put, List.setIfInBounds_toArray, List.set_cons_zero, List.set_cons_succ])
  clear hK K
  repeat (first | (apply ord_tk rfl (by rfl) (by rfl) (by rfl); (focus (intro wx hSw; have r0 := (hSw.cell (p := ⟨w.heap.size, 0, none⟩) hszW).trans q0; have r1 := (hSw.cell (p := ⟨w.heap.size, 1, none⟩) hszW).trans q1; have r2 := (hSw.cell (p := ⟨w.heap.size, 2, none⟩) hszW).trans q2; go_simp; (try with_reducible rfl))); (try simp only [Act.put, List.setIfInBounds_toArray, List.set_cons_zero, List.set_cons_succ])) | (apply ord_skip rfl (by rfl) (by rfl) (fun _ => hBe); (try simp only [Act.put, List.setIfInBounds_toArray, List.set_cons_zero, List.set_cons_succ])))
  refine ord_do rfl (by rfl) (by rfl) (fun K hK => ?_)
  go_simp
  refine (joined_jb _ _ _ _ _ _ (h'.below (hbW.trans (hBe.mono (Nat.le_of_lt hszW)))) hr' (hbW.trans (hBe.mono (Nat.le_of_lt hszW))).size hn' (hT.bel (hbW.trans (hBe.mono (Nat.le_of_lt hszW))))).mono ?_
  rintro e wd' ⟨rfl, hwd⟩
  replace hBe := hBe.trans (hwd.mono hBe.size)
  clear hwd
  refine hK.out _ _ (fun _ => hBe) ?_
  (try simp only [Act.put, List.setIfInBounds_toArray, List.set_cons_zero, List.set_cons_succ])
  clear hK K
  repeat (first | (apply ord_tk rfl (by rfl) (by rfl) (by rfl); (focus (intro wx hSw; have r0 := (hSw.cell (p := ⟨w.heap.size, 0, none⟩) hszW).trans q0; have r1 := (hSw.cell (p := ⟨w.heap.size, 1, none⟩) hszW).trans q1; have r2 := (hSw.cell (p := ⟨w.heap.size, 2, none⟩) hszW).trans q2; go_simp; (try with_reducible rfl))); (try simp only [Act.put, List.setIfInBounds_toArray, List.set_cons_zero, List.set_cons_succ])) | (apply ord_skip rfl (by rfl) (by rfl) (fun _ => hBe); (try simp only [Act.put, List.setIfInBounds_toArray, List.set_cons_zero, List.set_cons_succ])))
  refine ord_do rfl (by rfl) (by rfl) (fun K hK => ?_)
  go_simp
  refine hK.out _ _ (fun h => absurd h (by omega)) ?_
  (try simp only [Act.put, List.setIfInBounds_toArray, List.set_cons_zero, List.set_cons_succ])
  clear hK K
  refine ord_nil ?_
  go_wp2_with fail
  go_ret
  exact ⟨by rw [← hE.out]; rfl, hbW.trans (hBe.mono (Nat.le_of_lt hszW))⟩
set_option maxHeartbeats 4000000 in
theorem l10Text_any (w : World) (A : Option Addr) (n c : Nat) (os : List Int) (D : Int) (A' : Option Addr) (n' c' : Nat) (vs : List Int) (h : Sl w w.heap.size A n c os) (h' : Sl w w.heap.size A' n' c' vs) (hr : ∀ x ∈ os, i64ok x) (hr' : ∀ x ∈ vs, i64ok x) (hD : i64ok D) (h0 : ∀ x ∈ os, 0 ≤ x) (h0' : ∀ x ∈ vs, 0 ≤ x) (hD0 : 0 ≤ D) (hn : n ≤ 1048576) (hn' : n' ≤ 1048576)  :
    Calls Tryz.prog 13 #[.agg #[.slice A n c, .int .i64 D, .slice A' n' c']] w (Re w (.string (metText os D vs))) := by
  have hj1 := jb_size os hr
  have hj2 := jb_size vs hr'
  have hj3 := dec_size hD
  have l1 := h.len
  have l2 := h'.len
  obtain ⟨y, rfl⟩ : ∃ y : Nat, D = y := ⟨D.toNat, by omega⟩
  have hy := hD.2
  go_enter Tryz.func13, Tryz.ntmps13
  go_wp2_with fail
  obtain ⟨W, hW⟩ : ∃ W, w.alloc (.cells #[.slice A n c, .int .i64 (y : Int), .slice A' n' c'] 24) = W := ⟨_, rfl⟩
  have hbW : Below w.heap.size w W := by rw [← hW]; exact (by repeat (first | assumption | exact Below.refl _ _ | apply below_drewN | apply Below.drew | apply Below.alloc | apply Below.setCell | omega | (focus (simp; done)) | (focus (simp; omega))))
  have hszW : w.heap.size < W.heap.size := by rw [← hW]; simp
  have q0 : W.cell? ⟨w.heap.size, 0, none⟩ = some (.slice A n c) := by rw [← hW]; exact (Blk.new _ _ _).cell 0
  have q1 : W.cell? ⟨w.heap.size, 1, none⟩ = some (.int .i64 (y : Int)) := by rw [← hW]; exact (Blk.new _ _ _).cell 1
  have q2 : W.cell? ⟨w.heap.size, 2, none⟩ = some (.slice A' n' c') := by rw [← hW]; exact (Blk.new _ _ _).cell 2
  rw [hW]
  clear hW
  have hE := hide (show jb os ++ ⟨#[59]⟩ ++ dec (y : Int) ++ ⟨#[58]⟩ ++ jb vs = metText os y vs from rfl)
  have g1 : ¬ 9223372036854775807 < (jb os).size + 1 := by omega
  have g2 : ¬ 9223372036854775807 < (jb os).size + 1 + (dec (y : Int)).size := by omega
  have g3 : ¬ 9223372036854775807 < (jb os).size + 1 + (dec (y : Int)).size + 1 := by omega
  have g4 : ¬ 9223372036854775807 < (jb os).size + 1 + (dec (y : Int)).size + 1 + (jb vs).size := by omega
  go_wp2_with fail
  refine wp_region_be [0, 1, 4, 5, 9, 10, 2, 3, 6, 7, 8, 11, 12, 13] 13 W.heap.size W (by kernel_rfl) (by kernel_rfl) (by kernel_rfl) (fun _ _ _ _ _ h => h) (Below.refl _ _) (fun wd hBe => ?_)
  repeat (first | (apply ord_tk rfl (by rfl) (by rfl) (by rfl); (focus (intro wx hSw; have r0 := (hSw.cell (p := ⟨w.heap.size, 0, none⟩) hszW).trans q0; have r1 := (hSw.cell (p := ⟨w.heap.size, 1, none⟩) hszW).trans q1; have r2 := (hSw.cell (p := ⟨w.heap.size, 2, none⟩) hszW).trans q2; go_simp; (try with_reducible rfl))); (try simp only [Act.put, List.setIfInBounds_toArray, List.set_cons_zero, List.set_cons_succ])) | (apply ord_skip rfl (by rfl) (by rfl) (fun _ => hBe); (try simp only [Act.put, List.setIfInBounds_toArray, List.set_cons_zero, List.set_cons_succ])))
  refine ord_do rfl (by rfl) (by rfl) (fun K hK => ?_)
  go_simp
  refine (l10List_any _ _ _ _ _ _ (h.below (hbW.trans (hBe.mono (Nat.le_of_lt hszW)))) hr h0 (hbW.trans (hBe.mono (Nat.le_of_lt hszW))).size hn).mono ?_
  rintro e wd' ⟨rfl, hwd⟩
  replace hBe := hBe.trans (hwd.mono hBe.size)
  clear hwd
  refine hK.out _ _ (fun _ => hBe) ?_
  (try simp only [Act.put, List.setIfInBounds_toArray, List.set_cons_zero, List.set_cons_succ])
  clear hK K
  repeat (first | (apply ord_tk rfl (by rfl) (by rfl) (by rfl); (focus (intro wx hSw; have r0 := (hSw.cell (p := ⟨w.heap.size, 0, none⟩) hszW).trans q0; have r1 := (hSw.cell (p := ⟨w.heap.size, 1, none⟩) hszW).trans q1; have r2 := (hSw.cell (p := ⟨w.heap.size, 2, none⟩) hszW).trans q2; go_simp; (try with_reducible rfl))); (try simp only [Act.put, List.setIfInBounds_toArray, List.set_cons_zero, List.set_cons_succ])) | (apply ord_skip rfl (by rfl) (by rfl) (fun _ => hBe); (try simp only [Act.put, List.setIfInBounds_toArray, List.set_cons_zero, List.set_cons_succ])))
  refine ord_do rfl (by rfl) (by rfl) (fun K hK => ?_)
  go_simp
  refine (l01Dec_any y (by omega) _).mono ?_
  rintro e wd' ⟨rfl, hwd⟩
  replace hBe := hBe.trans (hwd.mono hBe.size)
  clear hwd
  refine hK.out _ _ (fun _ => hBe) ?_
  (try simp only [Act.put, List.setIfInBounds_toArray, List.set_cons_zero, List.set_cons_succ])
  clear hK K
  repeat (first | (apply ord_tk rfl (by rfl) (by rfl) (by rfl); (focus (intro wx hSw; have r0 := (hSw.cell (p := ⟨w.heap.size, 0, none⟩) hszW).trans q0; have r1 := (hSw.cell (p := ⟨w.heap.size, 1, none⟩) hszW).trans q1; have r2 := (hSw.cell (p := ⟨w.heap.size, 2, none⟩) hszW).trans q2; go_simp; (try with_reducible rfl))); (try simp only [Act.put, List.setIfInBounds_toArray, List.set_cons_zero, List.set_cons_succ])) | (apply ord_skip rfl (by rfl) (by rfl) (fun _ => hBe); (try simp only [Act.put, List.setIfInBounds_toArray, List.set_cons_zero, List.set_cons_succ])))
  refine ord_do rfl (by rfl) (by rfl) (fun K hK => ?_)
  go_simp
  refine (l10List_any _ _ _ _ _ _ (h'.below (hbW.trans (hBe.mono (Nat.le_of_lt hszW)))) hr' h0' (hbW.trans (hBe.mono (Nat.le_of_lt hszW))).size hn').mono ?_
  rintro e wd' ⟨rfl, hwd⟩
  replace hBe := hBe.trans (hwd.mono hBe.size)
  clear hwd
  refine hK.out _ _ (fun _ => hBe) ?_
  (try simp only [Act.put, List.setIfInBounds_toArray, List.set_cons_zero, List.set_cons_succ])
  clear hK K
  repeat (first | (apply ord_tk rfl (by rfl) (by rfl) (by rfl); (focus (intro wx hSw; have r0 := (hSw.cell (p := ⟨w.heap.size, 0, none⟩) hszW).trans q0; have r1 := (hSw.cell (p := ⟨w.heap.size, 1, none⟩) hszW).trans q1; have r2 := (hSw.cell (p := ⟨w.heap.size, 2, none⟩) hszW).trans q2; go_simp; (try with_reducible rfl))); (try simp only [Act.put, List.setIfInBounds_toArray, List.set_cons_zero, List.set_cons_succ])) | (apply ord_skip rfl (by rfl) (by rfl) (fun _ => hBe); (try simp only [Act.put, List.setIfInBounds_toArray, List.set_cons_zero, List.set_cons_succ])))
  refine ord_do rfl (by rfl) (by rfl) (fun K hK => ?_)
  go_simp
  refine hK.out _ _ (fun h => absurd h (by omega)) ?_
  (try simp only [Act.put, List.setIfInBounds_toArray, List.set_cons_zero, List.set_cons_succ])
  clear hK K
  refine ord_nil ?_
  go_wp2_with fail
  go_ret
  exact ⟨by rw [← hE.out]; rfl, hbW.trans (hBe.mono (Nat.le_of_lt hszW))⟩
end Go.Proofs.YtkhkejdkakmiiaaGreatDoor
