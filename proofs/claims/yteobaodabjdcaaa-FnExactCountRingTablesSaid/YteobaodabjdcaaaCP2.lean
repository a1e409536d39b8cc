
/- Lists of triples of the call's own; slices.Index and slices.Contains on them. -/
import Derived.Test.YteobaodabjdcaaaCP1
import Derived.WalkLawsBesides
import Derived.DeepKeys
namespace Go.Proofs.Yteobaodabjdcaaa
open Go Go.RowKit
set_option linter.unusedSimpArgs false
set_option linter.unusedVariables false
set_option maxRecDepth 100000
def tc (t : T3) : List Value := [.int .i64 t.1, .int .i64 t.2.1, .int .i64 t.2.2]
/-- The slice v, nil or the call's own, holds just the triples l. -/
def OwT (w : World) (B : Nat) (v : Value) (l : List T3) : Prop := w.ownsRow B 49 3 v l.length (l.flatMap tc)
/-- The slice reads as the triples l. -/
structure SlT (w : World) (B b n c : Nat) (l : List T3) : Prop where
  len : l.length = n
  cap : n ≤ c
  lt : b < B
  at_ : ∀ k t, l[k]? = some t → w.cell? ⟨b, k * 3, none⟩ = some (.int .i64 t.1) ∧ w.cell? ⟨b, k * 3 + 1, none⟩ = some (.int .i64 t.2.1) ∧ w.cell? ⟨b, k * 3 + 2, none⟩ = some (.int .i64 t.2.2)
theorem SlT.below {w w' : World} {B b n c : Nat} {l : List T3} (h : SlT w B b n c l) (hb : Below B w w') : SlT w' B b n c l :=
  ⟨h.len, h.cap, h.lt, fun k t ht => by
    obtain ⟨h1, h2, h3⟩ := h.at_ k t ht
    exact ⟨(hb.cell (p := ⟨b, _, none⟩) h.lt).trans h1, (hb.cell (p := ⟨b, _, none⟩) h.lt).trans h2, (hb.cell (p := ⟨b, _, none⟩) h.lt).trans h3⟩⟩
theorem flat_at (l : List T3) (k : Nat) (t : T3) (h : l[k]? = some t) (j : Nat) (hj : j < 3) : (l.flatMap tc)[k * 3 + j]? = (tc t)[j]? := by
  induction l generalizing k with
  | nil => simp at h
  | cons x l ih =>
    rw [List.flatMap_cons]
    cases k with
    | zero =>
      simp at h; subst h
      rw [Nat.zero_mul, Nat.zero_add, List.getElem?_append_left (by simp [tc]; omega)]
    | succ k =>
      rw [List.getElem?_append_right (by simp [tc]; omega), show (k + 1) * 3 + j - (tc x).length = k * 3 + j by simp [tc]; omega]
      exact ih k (by simpa using h)
theorem flat_len (l : List T3) : (l.flatMap tc).length = l.length * 3 := by
  induction l with
  | nil => rfl
  | cons x l ih => rw [List.flatMap_cons, List.length_append, ih]; simp [tc]; omega
theorem OwT.sl {w : World} {B : Nat} {v : Value} {l : List T3} (h : OwT w B v l) (hne : l ≠ []) : ∃ g c, v = .slice (some ⟨g, 0, none⟩) l.length c ∧ B ≤ g ∧ SlT w w.heap.size g l.length c l := by
  obtain ⟨h1, h2⟩ := h
  rcases h2 with ⟨rfl, h3⟩ | ⟨g, cap, cur, rfl, hg, hh, hn, hm, hs, hx⟩
  · exact absurd (List.eq_nil_of_length_eq_zero (by simpa using h3)) hne
  · have hl : g < w.heap.size := by
      rcases Nat.lt_or_ge g w.heap.size with h | h
      · exact h
      · rw [Array.getElem?_eq_none h] at hh; cases hh
    refine ⟨g, cap, rfl, hg, rfl, hn, hl, fun k t hk => ?_⟩
    have hkl := (List.getElem?_eq_some_iff.1 hk).1
    have hcell : ∀ j, j < 3 → w.cell? ⟨g, k * 3 + j, none⟩ = (tc t)[j]? := fun j hj => by
      have h5 : (cur.toList.take (l.length * 3))[k * 3 + j]? = (l.flatMap tc)[k * 3 + j]? := by rw [hx]
      rw [List.getElem?_take, if_pos (by omega), flat_at l k t hk j hj] at h5
      simp only [World.cell?, hh]
      simpa using h5
    exact ⟨hcell 0 (by omega), hcell 1 (by omega), hcell 2 (by omega)⟩
def idx3 (l : List T3) (t : T3) : Int := if t ∈ l then ((l.findIdx fun x => x == t : Nat) : Int) else -1
theorem eq3 (w : World) {s t : T3} (hs : s ∈ trs3) (ht : t ∈ trs3) : (Op.equalIn 10000 49 (tv s) (tv t)).run Try.prog w = .ok (decide (s = t)) w := by
  obtain ⟨r, h1, h2⟩ := run_equal_deep (P := Try.prog) w (m := 2) (by omega) (k := 49) (by kernel_rfl) (by rw [Try.underlying49]) (key3 hs) (key3 ht)
  have h3 : r = decide (s = t) := by
    by_cases e : s = t
    · subst e; rw [h2.2 rfl]; simp
    · have : r ≠ true := fun hr => e (kt_inj hs ht (h2.1 hr))
      cases r with
      | true => exact absurd rfl this
      | false => simp [e]
  rw [← h3]
  exact h1
set_option maxHeartbeats 4000000 in
theorem index3_any (w : World) (B b n c : Nat) (l : List T3) (t : T3) (h : SlT w B b n c l) (hB : B ≤ w.heap.size) (hn : n ≤ 1048576) (ht : t ∈ trs3) (hl : ∀ x ∈ l, x ∈ trs3) :
    Calls Try.prog 36 #[.slice (some ⟨b, 0, none⟩) n c, tv t] w (Re w (.int .i64 (idx3 l t))) := by
  have HEq := hide (fun W x (hx : x ∈ l) => eq3 W ht (hl x hx))
  unfold tv at HEq ⊢
  go_enter Try.func36, Try.ntmps36
  go_wp2_with fail
  obtain ⟨W, hW⟩ : ∃ W, w.alloc (.cells #[.int .i64 t.1, .int .i64 t.2.1, .int .i64 t.2.2] 49) = W := ⟨_, rfl⟩
  have hbW : Below w.heap.size w W := by rw [← hW]; exact (by repeat (first | assumption | exact Below.refl _ _ | apply below_drewN | apply Below.drew | apply Below.alloc | apply Below.setCell | omega | (focus (simp; done)) | (focus (simp; omega))))
  have hszW : w.heap.size < W.heap.size := by rw [← hW]; simp
  have q0 : W.cell? ⟨w.heap.size, 0, none⟩ = some (.int .i64 t.1) := by rw [← hW]; exact (Blk.new _ _ _).cell 0
  have q1 : W.cell? ⟨w.heap.size, 1, none⟩ = some (.int .i64 t.2.1) := by rw [← hW]; exact (Blk.new _ _ _).cell 1
  have q2 : W.cell? ⟨w.heap.size, 2, none⟩ = some (.int .i64 t.2.2) := by rw [← hW]; exact (Blk.new _ _ _).cell 2
  rw [hW]
  clear hW
  have hL := h.len
  go_loopw [8] (fun i wr => ∃ k : Nat, k ≤ n ∧ i = .int .i64 k ∧ Below W.heap.size W wr ∧ ∀ j, j < k → l[j]? ≠ some t) (fun i _ => n - (intOf i).toNat)
  case atStart => exact ⟨0, by omega, rfl, Below.refl _ _, fun j hj => by omega⟩
  case round =>
    obtain ⟨k, hk, rfl, hBe, hP⟩ := hrel
    have hbw : Below w.heap.size w wr := hbW.trans (hBe.mono hbW.size)
    by_cases hlt : k < n
    · obtain ⟨x, hx⟩ : ∃ x, l[k]? = some x := ⟨l[k]'(by omega), List.getElem?_eq_getElem _⟩
      obtain ⟨g0, g1, g2⟩ := (h.below (hbw.mono hB)).at_ k x hx
      have hbl : b < wr.heap.size := by have := h.lt; have := hbw.size; omega
      have hwl : w.heap.size < wr.heap.size := by have := hBe.size; omega
      have r0 := (hBe.cell (p := ⟨w.heap.size, 0, none⟩) hszW).trans q0
      have r1 := (hBe.cell (p := ⟨w.heap.size, 1, none⟩) hszW).trans q1
      have r2 := (hBe.cell (p := ⟨w.heap.size, 2, none⟩) hszW).trans q2
      have heq := fun W => HEq.out W x (List.mem_of_getElem? hx)
      obtain ⟨bb, hbb⟩ : ∃ b, decide (t = x) = b := ⟨_, rfl⟩
      simp only [hbb] at heq
      have HX := hide hx
      have HBB := hide hbb
      clear hx hbb
      go_wp2_with fail
      obtain ⟨wk, hwk⟩ : ∃ wk, wk = wr := ⟨_, rfl⟩
      subst hwk
      refine wp_region_be [0, 1, 2, 3, 4, 5] 6 wk.heap.size wk (by kernel_rfl) (by kernel_rfl) (by kernel_rfl) (fun _ _ _ _ _ h => h) (Below.refl _ _) (fun wd hBe => ?_)
      repeat (first | (apply ord_tk rfl (by rfl) (by rfl) (by rfl); (focus (intro wx hSw; have s0 := (hSw.cell (p := ⟨w.heap.size, 0, none⟩) hwl).trans r0; have s1 := (hSw.cell (p := ⟨w.heap.size, 1, none⟩) hwl).trans r1; have s2 := (hSw.cell (p := ⟨w.heap.size, 2, none⟩) hwl).trans r2; have s3 := (hSw.cell (p := ⟨b, k * 3, none⟩) hbl).trans g0; have s4 := (hSw.cell (p := ⟨b, k * 3 + 1, none⟩) hbl).trans g1; have s5 := (hSw.cell (p := ⟨b, k * 3 + 2, none⟩) hbl).trans g2; go_simp; (try with_reducible rfl))); (try simp only [Act.put, List.setIfInBounds_toArray, List.set_cons_zero, List.set_cons_succ])) | (apply ord_skip rfl (by rfl) (by rfl) (fun _ => hBe); (try simp only [Act.put, List.setIfInBounds_toArray, List.set_cons_zero, List.set_cons_succ])))
      refine ord_nil ?_
      clear heq r0 r1 r2 g0 g1 g2
      have hbz : Below W.heap.size W wd := by rename_i hB0; exact hB0.trans (hBe.mono hB0.size)
      cases bb with
      | true =>
        have hix := hide (show idx3 l t = k by
          have ht' : t = x := by simpa using HBB.out
          subst ht'
          unfold idx3
          rw [if_pos (List.mem_of_getElem? HX.out)]
          congr 1
          have hkl : k < l.length := by omega
          rw [List.findIdx_eq hkl]
          refine ⟨by have := HX.out; rw [List.getElem?_eq_getElem hkl] at this; injection this with this; simp [this], fun j hj => ?_⟩
          have := hP j hj
          rw [List.getElem?_eq_getElem (by omega)] at this
          simpa using this)
        go_wp2_with fail
        go_ret
        exact ⟨by rw [hix.out]; rfl, hbW.trans (hbz.mono hbW.size)⟩
      | false =>
        have hne : l[k]? ≠ some t := by rw [HX.out]; intro e; injection e with e; have := HBB.out; simp [e] at this
        go_wp2_with fail
        go_roundw
        case rel => exact ⟨k + 1, by omega, by go_num, hbz, fun j hj => by rcases Nat.lt_succ_iff_lt_or_eq.1 hj with h | rfl; exact hP j h; exact hne⟩
        case measure => simp [intOf] <;> omega
    · obtain rfl : k = n := by omega
      have hix := hide (show idx3 l t = -1 by
        unfold idx3
        rw [if_neg]
        intro hm
        obtain ⟨j, hj⟩ := List.getElem?_of_mem hm
        have hjl := (List.getElem?_eq_some_iff.1 hj).1
        exact hP j (by omega) hj)
      go_wp2_with fail
      go_ret
      exact ⟨by rw [hix.out]; rfl, hbW.trans (hBe.mono hbW.size)⟩
theorem contains3_any (w : World) (B b n c : Nat) (l : List T3) (t : T3) (h : SlT w B b n c l) (hB : B ≤ w.heap.size) (hn : n ≤ 1048576) (ht : t ∈ trs3) (hl : ∀ x ∈ l, x ∈ trs3) :
    Calls Try.prog 30 #[.slice (some ⟨b, 0, none⟩) n c, tv t] w (Re w (.bool (decide (t ∈ l)))) := by
  have hI := hide (fun W (hb : Below w.heap.size w W) => index3_any W B b n c l t (h.below (hb.mono hB)) (by have := hb.size; omega) hn ht hl)
  unfold tv at hI ⊢
  obtain ⟨W, hW⟩ : ∃ W, w.alloc (.cells #[.int .i64 t.1, .int .i64 t.2.1, .int .i64 t.2.2] 49) = W := ⟨_, rfl⟩
  have hbW : Below w.heap.size w W := by rw [← hW]; exact (by repeat (first | assumption | exact Below.refl _ _ | apply below_drewN | apply Below.drew | apply Below.alloc | apply Below.setCell | omega | (focus (simp; done)) | (focus (simp; omega))))
  have q0 : W.cell? ⟨w.heap.size, 0, none⟩ = some (.int .i64 t.1) := by rw [← hW]; exact (Blk.new _ _ _).cell 0
  have q1 : W.cell? ⟨w.heap.size, 1, none⟩ = some (.int .i64 t.2.1) := by rw [← hW]; exact (Blk.new _ _ _).cell 1
  have q2 : W.cell? ⟨w.heap.size, 2, none⟩ = some (.int .i64 t.2.2) := by rw [← hW]; exact (Blk.new _ _ _).cell 2
  obtain ⟨r, hr⟩ : ∃ r, idx3 l t = r := ⟨_, rfl⟩
  have HR := hide (show decide (t ∈ l) = decide (0 ≤ r) by
    rw [← hr]; unfold idx3
    by_cases e : t ∈ l
    · rw [if_pos e]; simp [e]
    · rw [if_neg e]; simp [e])
  rw [hr] at hI
  clear hr
  go_enter Try.func30, Try.ntmps30
  go_wp2_with fail
  clear q0 q1 q2 hW
  refine (hI.out _ hbW).mono ?_
  rintro e w2 ⟨rfl, hb2⟩
  go_wp2_with fail
  go_ret
  exact ⟨by rw [HR.out]; rfl, hbW.trans (hb2.mono hbW.size)⟩
end Go.Proofs.Yteobaodabjdcaaa
