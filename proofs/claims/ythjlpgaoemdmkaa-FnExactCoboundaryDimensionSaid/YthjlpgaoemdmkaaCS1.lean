
/- The walks of l17Size, l17Shape, l17Normal of the reference. -/
import Derived.Test.YthjlpgaoemdmkaaCC
namespace Go.Proofs.Ythjlpgaoemdmkaa
open Go Go.RowKit Grp
set_option linter.unusedSimpArgs false
set_option linter.unusedVariables false
set_option maxRecDepth 100000

theorem l17Size_any (w : World) (B : Nat) (A : Option Addr) (n c : Nat) (xs : List Int) (h : Sl w B A n c xs) (hn : n ≤ 1048576) (hp : Pos xs) : Calls Try.prog 69 #[.slice A n c] w (Qt w (.int .i64 (min 9 (prodL xs)))) := by
  have hc := l06Size_any w B A n c xs 8 h hn hp (by omega) (by omega)
  obtain ⟨y, hy⟩ : ∃ y, min (9 : Int) (prodL xs) = y := ⟨_, rfl⟩
  rw [show (8 : Int) + 1 = 9 by omega, hy] at hc
  rw [hy]
  have HC := hide hc
  clear hc hy
  go_enter Try.func69, Try.ntmps69
  go_wp2_with fail
  refine HC.out.mono ?_
  rintro e w' ⟨rfl, d, rfl⟩
  go_wp2_with fail
  go_ret
  exact Qt.mk' d rfl rfl
/-- No list of a cocycle is longer than 2^20. -/
def ShC (os : List Int) (t : Tb) : Prop := os.length ≤ 1048576 ∧ t.length ≤ 1048576 ∧ ∀ xs ∈ t, xs.length ≤ 1048576 ∧ ∀ ys ∈ xs, ys.length ≤ 1048576
theorem not_ch_row {os : List Int} {m : Int} {t : Tb} {a : List (List Int)} {k : Nat} (h : t[k]? = some a) (hl : a.length ≠ t.length) : chB os m t = false := chB_f fun hc => hl (hc.mat a (get_mem h)).1
theorem not_ch_col {os : List Int} {m : Int} {t : Tb} {a : List (List Int)} {r : List Int} {k j : Nat} (h : t[k]? = some a) (h2 : a[j]? = some r) (hl : r.length ≠ t.length) : chB os m t = false := chB_f fun hc => hl ((hc.mat a (get_mem h)).2 r (get_mem h2)).1
theorem not_ch_num {os : List Int} {m : Int} {t : Tb} {a : List (List Int)} {r : List Int} {k j i : Nat} (h : t[k]? = some a) (h2 : a[j]? = some r) (hi : i < r.length) (hl : ¬ (0 ≤ gi r i ∧ gi r i ≤ m - 1)) : chB os m t = false := chB_f fun hc => hl (((hc.mat a (get_mem h)).2 r (get_mem h2)).2 _ (gi_mem hi))

set_option maxHeartbeats 4000000 in
theorem l17Shape_any (w : World) (A : Option Addr) (n c : Nat) (os : List Int) (M : Int) (D : Option Addr) (e f : Nat) (t : Tb) (h : Sl w w.heap.size A n c os) (h' : Sl3 w w.heap.size D e f t) (hm : i64ok M) (hs : ShC os t) :
    Calls Try.prog 89 #[.agg #[.slice A n c, .int .i64 M, .slice D e f]] w (Re w (.bool (chB os M t))) := by
  obtain rfl := h.len
  obtain rfl := h'.len
  have hr := hs.2.2
  cases ho : ordHB os with
  | false =>
    have hE := hide (chB_f (os := os) (m := M) (t := t) fun hc => by rw [ordHB_t hc.ord] at ho; cases ho)
    go_enter Try.func89, Try.ntmps89
    go_wp2_with fail
    obtain ⟨W, hW⟩ : ∃ W, w.alloc (.cells #[.slice A os.length c, .int .i64 M, .slice D t.length f] 25) = W := ⟨_, rfl⟩
    have hbW : Below w.heap.size w W := by rw [← hW]; exact (by repeat (first | assumption | exact Below.refl _ _ | apply below_drewN | apply Below.drew | apply Below.alloc | apply Below.setCell | omega | (focus (simp; done)) | (focus (simp; omega))))
    have hszW : w.heap.size < W.heap.size := by rw [← hW]; simp
    have hsW := hide (show W.heap.size = w.heap.size + 1 by rw [← hW]; simp)
    have q0 : W.cell? ⟨w.heap.size, 0, none⟩ = some (.slice A os.length c) := by rw [← hW]; exact (Blk.new _ _ _).cell 0
    have q1 : W.cell? ⟨w.heap.size, 1, none⟩ = some (.int .i64 M) := by rw [← hW]; exact (Blk.new _ _ _).cell 1
    have q2 : W.cell? ⟨w.heap.size, 2, none⟩ = some (.slice D t.length f) := by rw [← hW]; exact (Blk.new _ _ _).cell 2
    rw [hW]
    clear hW
    refine (l06Orders_any _ _ _ _ _ _ (h.below hbW) hs.1).mono ?_
    rw [ho]
    rintro e' w1 ⟨rfl, d, rfl⟩
    clear ho
    go_wp2_with fail
    go_ret
    exact ⟨by rw [hE.out]; rfl, below_drewN hbW d⟩
  | true =>
    have hO := ordHB_iff.1 ho
    have hP := hO.2
    by_cases hm2 : 1 ≤ M ∧ M ≤ 1000
    rotate_left
    · have hE := hide (chB_f (os := os) (m := M) (t := t) fun hc => hm2 ⟨hc.m1, hc.m2⟩)
      go_enter Try.func89, Try.ntmps89
      go_wp2_with fail
      obtain ⟨W, hW⟩ : ∃ W, w.alloc (.cells #[.slice A os.length c, .int .i64 M, .slice D t.length f] 25) = W := ⟨_, rfl⟩
      have hbW : Below w.heap.size w W := by rw [← hW]; exact (by repeat (first | assumption | exact Below.refl _ _ | apply below_drewN | apply Below.drew | apply Below.alloc | apply Below.setCell | omega | (focus (simp; done)) | (focus (simp; omega))))
      have hszW : w.heap.size < W.heap.size := by rw [← hW]; simp
      have hsW := hide (show W.heap.size = w.heap.size + 1 by rw [← hW]; simp)
      have q0 : W.cell? ⟨w.heap.size, 0, none⟩ = some (.slice A os.length c) := by rw [← hW]; exact (Blk.new _ _ _).cell 0
      have q1 : W.cell? ⟨w.heap.size, 1, none⟩ = some (.int .i64 M) := by rw [← hW]; exact (Blk.new _ _ _).cell 1
      have q2 : W.cell? ⟨w.heap.size, 2, none⟩ = some (.slice D t.length f) := by rw [← hW]; exact (Blk.new _ _ _).cell 2
      rw [hW]
      clear hW
      refine (l06Orders_any _ _ _ _ _ _ (h.below hbW) hs.1).mono ?_
      rw [ho]
      rintro e' w1 ⟨rfl, d, rfl⟩
      clear ho
      go_wp2_with fail
      refine (l01In_f M 1 1000 _ hm2).mono ?_
      rintro e w' ⟨rfl, m, rfl⟩
      go_wp2_with fail
      go_ret
      exact ⟨by rw [hE.out]; rfl, below_drewN hbW _⟩
    obtain ⟨m1, m2⟩ := hm2
    have hp1 := prodL_pos hP
    have hsz := fun W (hW : Sl W w.heap.size A os.length c os) => l17Size_any W _ _ _ _ _ hW hs.1 hP
    obtain ⟨y, hy⟩ : ∃ y, min (9 : Int) (prodL os) = y := ⟨_, rfl⟩
    rw [hy] at hsz
    have HZ := hide hsz
    clear hsz
    by_cases h8 : 8 < prodL os
    · have hE := hide (chB_f (os := os) (m := M) (t := t) fun hc => by have := hc.p8; omega)
      have hy8 : 8 < y := by omega
      clear hy h8
      go_enter Try.func89, Try.ntmps89
      go_wp2_with fail
      obtain ⟨W, hW⟩ : ∃ W, w.alloc (.cells #[.slice A os.length c, .int .i64 M, .slice D t.length f] 25) = W := ⟨_, rfl⟩
      have hbW : Below w.heap.size w W := by rw [← hW]; exact (by repeat (first | assumption | exact Below.refl _ _ | apply below_drewN | apply Below.drew | apply Below.alloc | apply Below.setCell | omega | (focus (simp; done)) | (focus (simp; omega))))
      have hszW : w.heap.size < W.heap.size := by rw [← hW]; simp
      have hsW := hide (show W.heap.size = w.heap.size + 1 by rw [← hW]; simp)
      have q0 : W.cell? ⟨w.heap.size, 0, none⟩ = some (.slice A os.length c) := by rw [← hW]; exact (Blk.new _ _ _).cell 0
      have q1 : W.cell? ⟨w.heap.size, 1, none⟩ = some (.int .i64 M) := by rw [← hW]; exact (Blk.new _ _ _).cell 1
      have q2 : W.cell? ⟨w.heap.size, 2, none⟩ = some (.slice D t.length f) := by rw [← hW]; exact (Blk.new _ _ _).cell 2
      rw [hW]
      clear hW
      refine (l06Orders_any _ _ _ _ _ _ (h.below hbW) hs.1).mono ?_
      rw [ho]
      rintro e' w1 ⟨rfl, d, rfl⟩
      go_wp2_with fail
      refine (l01In_t M 1 1000 _ m1 m2).mono ?_
      rintro e w' ⟨rfl, m, rfl⟩
      go_wp2_with fail
      refine (HZ.out _ ((h.below hbW).drewN _)).mono ?_
      rintro e' w1 ⟨rfl, d, rfl⟩
      go_wp2_with fail
      go_ret
      exact ⟨by rw [hE.out]; rfl, below_drewN hbW _⟩
    have hyp : y = prodL os := by omega
    have hy8 : ¬ 8 < y := by omega
    have HYP := hide hyp
    clear hy hyp h8
    by_cases hl : (t.length : Int) = y
    rotate_left
    · have hE := hide (chB_f (os := os) (m := M) (t := t) fun hc => hl (by rw [HYP.out]; exact hc.len))
      have hlb : ((t.length : Int) != y) = true := by simpa using hl
      clear hl
      go_enter Try.func89, Try.ntmps89
      go_wp2_with fail
      obtain ⟨W, hW⟩ : ∃ W, w.alloc (.cells #[.slice A os.length c, .int .i64 M, .slice D t.length f] 25) = W := ⟨_, rfl⟩
      have hbW : Below w.heap.size w W := by rw [← hW]; exact (by repeat (first | assumption | exact Below.refl _ _ | apply below_drewN | apply Below.drew | apply Below.alloc | apply Below.setCell | omega | (focus (simp; done)) | (focus (simp; omega))))
      have hszW : w.heap.size < W.heap.size := by rw [← hW]; simp
      have hsW := hide (show W.heap.size = w.heap.size + 1 by rw [← hW]; simp)
      have q0 : W.cell? ⟨w.heap.size, 0, none⟩ = some (.slice A os.length c) := by rw [← hW]; exact (Blk.new _ _ _).cell 0
      have q1 : W.cell? ⟨w.heap.size, 1, none⟩ = some (.int .i64 M) := by rw [← hW]; exact (Blk.new _ _ _).cell 1
      have q2 : W.cell? ⟨w.heap.size, 2, none⟩ = some (.slice D t.length f) := by rw [← hW]; exact (Blk.new _ _ _).cell 2
      rw [hW]
      clear hW
      refine (l06Orders_any _ _ _ _ _ _ (h.below hbW) hs.1).mono ?_
      rw [ho]
      rintro e' w1 ⟨rfl, d, rfl⟩
      go_wp2_with fail
      refine (l01In_t M 1 1000 _ m1 m2).mono ?_
      rintro e w' ⟨rfl, m, rfl⟩
      go_wp2_with fail
      refine (HZ.out _ ((h.below hbW).drewN _)).mono ?_
      rintro e' w1 ⟨rfl, d, rfl⟩
      go_wp2_with fail
      go_ret
      exact ⟨by rw [hE.out]; rfl, below_drewN hbW _⟩
    subst hl
    have hp : 1 ≤ t.length := by have := HYP.out; omega
    have h8 : t.length ≤ 8 := by omega
    obtain ⟨b, off, rfl, hb⟩ := RdL.addr h' (by omega)
    go_enter Try.func89, Try.ntmps89
    go_wp2_with fail
    obtain ⟨W, hW⟩ : ∃ W, w.alloc (.cells #[.slice A os.length c, .int .i64 M, .slice (some ⟨b, off, none⟩) t.length f] 25) = W := ⟨_, rfl⟩
    have hbW : Below w.heap.size w W := by rw [← hW]; exact (by repeat (first | assumption | exact Below.refl _ _ | apply below_drewN | apply Below.drew | apply Below.alloc | apply Below.setCell | omega | (focus (simp; done)) | (focus (simp; omega))))
    have hszW : w.heap.size < W.heap.size := by rw [← hW]; simp
    have hsW := hide (show W.heap.size = w.heap.size + 1 by rw [← hW]; simp)
    have q0 : W.cell? ⟨w.heap.size, 0, none⟩ = some (.slice A os.length c) := by rw [← hW]; exact (Blk.new _ _ _).cell 0
    have q1 : W.cell? ⟨w.heap.size, 1, none⟩ = some (.int .i64 M) := by rw [← hW]; exact (Blk.new _ _ _).cell 1
    have q2 : W.cell? ⟨w.heap.size, 2, none⟩ = some (.slice (some ⟨b, off, none⟩) t.length f) := by rw [← hW]; exact (Blk.new _ _ _).cell 2
    rw [hW]
    clear hW
    refine (l06Orders_any _ _ _ _ _ _ (h.below hbW) hs.1).mono ?_
    rw [ho]
    rintro e' w1 ⟨rfl, d, rfl⟩
    go_wp2_with fail
    refine (l01In_t M 1 1000 _ m1 m2).mono ?_
    rintro e w' ⟨rfl, m, rfl⟩
    go_wp2_with fail
    refine (HZ.out _ ((h.below hbW).drewN _)).mono ?_
    rintro e' w1 ⟨rfl, d, rfl⟩
    go_wp2_with fail
    have hs3 := h'.below hbW
    go_loopw [4] (fun i wr => ∃ k : Nat, k ≤ t.length ∧ i = .int .i64 k ∧ Hid (∀ (j : Nat) a, j < k → t[j]? = some a → MatM t.length M a) ∧ ∃ d, W.drewN d = wr) (fun i _ => t.length - (intOf i).toNat)
    case atStart => exact ⟨0, by omega, rfl, hide fun j a hj => absurd hj (by omega), _, rfl⟩
    case round =>
      obtain ⟨k, hk, rfl, HP, d, rfl⟩ := hrel
      by_cases hlt : k < t.length
      · obtain ⟨a, ha⟩ := get_at hlt
        obtain ⟨A1, n1, c1, e1, hs1⟩ := hs3.row ha
        obtain rfl := hs1.len
        have hra := hr a (get_mem ha)
        have HA := hide ha
        by_cases hl : a.length = t.length
        rotate_left
        · have hE := hide (not_ch_row (os := os) (m := M) ha hl)
          have hl' : ((a.length : Int) != (t.length : Int)) = true := by simp; omega
          clear ha
          go_wp2_with fail
          go_ret
          exact ⟨by rw [hE.out]; rfl, below_drewN hbW _⟩
        have hl' : ((a.length : Int) != (t.length : Int)) = false := by simp [hl]
        have HL := hide hl
        clear ha hl
        obtain ⟨b', off', rfl, hb'⟩ := RdL.addr hs1 (by have := HL.out; omega)
        go_wp2_with fail
        go_loopw [5] (fun i wr => ∃ z : Nat, z ≤ t.length ∧ i = .int .i64 z ∧ Hid (∀ (j : Nat) r, j < z → a[j]? = some r → RowM t.length M r) ∧ ∃ d, W.drewN d = wr) (fun i _ => t.length - (intOf i).toNat)
        case atStart => exact ⟨0, by omega, rfl, hide fun j a hj => absurd hj (by omega), d, rfl⟩
        case round =>
          obtain ⟨z, hz, rfl, HQ, d2, rfl⟩ := hrel
          by_cases hlz : z < t.length
          · obtain ⟨r, hrr⟩ := get_at (xs := a) (k := z) (by rw [HL.out]; exact hlz)
            obtain ⟨A2, n2, c2, e2, hs2⟩ := hs1.row hrr
            obtain rfl := hs2.len
            have HR := hide hrr
            have izl : (z : Int) < (a.length : Int) := by have := HL.out; omega
            by_cases hl2 : r.length = t.length
            rotate_left
            · have hE := hide (not_ch_col (os := os) (m := M) HA.out hrr hl2)
              have hl2' : ((r.length : Int) != (t.length : Int)) = true := by simp; omega
              clear hrr
              go_wp2_with fail
              go_ret
              exact ⟨by rw [hE.out]; rfl, below_drewN hbW _⟩
            have hl2' : ((r.length : Int) != (t.length : Int)) = false := by simp [hl2]
            have HL2 := hide hl2
            clear hrr hl2
            obtain ⟨b2, off2, rfl, hb2⟩ := Sl.addr hs2 (by have := HL2.out; omega)
            go_wp2_with fail
            go_loopw [6] (fun i wr => ∃ y : Nat, y ≤ t.length ∧ i = .int .i64 y ∧ Hid (∀ j, j < y → 0 ≤ gi r j ∧ gi r j ≤ M - 1) ∧ ∃ d, W.drewN d = wr) (fun i _ => t.length - (intOf i).toNat)
            case atStart => exact ⟨0, by omega, rfl, hide fun j hj => absurd hj (by omega), d2, rfl⟩
            case round =>
              obtain ⟨y, hy, rfl, HY, d3, rfl⟩ := hrel
              by_cases hly : y < t.length
              · have e3 := hs2.row (k := y) (by rw [HL2.out]; exact hly)
                have iyl : (y : Int) < (r.length : Int) := by have := HL2.out; omega
                have hwm : IntKind.i64.wrap (M - 1) = M - 1 := wr64 _ ⟨by omega, by omega⟩
                obtain ⟨v, ev⟩ : ∃ v, gi r y = v := ⟨_, rfl⟩
                have EV := hide ev
                rw [ev] at e3
                clear ev
                by_cases hv : 0 ≤ v ∧ v ≤ M - 1
                · go_wp2_with fail
                  refine wp_region_dr [0, 1, 2, 3, 4, 5, 6, 7, 8, 9, 10, 11, 12, 13, 14, 15] 16 (W.drewN d3) (by kernel_rfl) (by kernel_rfl) (by kernel_rfl) (fun _ _ _ _ _ h => h) (Dr.refl _) (fun wd hDr => ?_)
                  repeat (first | (apply ord_tk rfl (by rfl) (by rfl) (by rfl); (focus (rintro w ⟨dm, rfl⟩; go_simp; (try with_reducible rfl))); (try simp only [Act.put, List.setIfInBounds_toArray, List.set_cons_zero, List.set_cons_succ])) | (apply ord_skip rfl (by rfl) (by rfl) (fun _ => hDr); (try simp only [Act.put, List.setIfInBounds_toArray, List.set_cons_zero, List.set_cons_succ])))
                  refine ord_do rfl (by rfl) (by rfl) (fun K hK => ?_)
                  go_simp
                  refine (l01In_t v 0 (M - 1) _ hv.1 hv.2).mono ?_
                  rintro e wd' ⟨rfl, dm, hwd⟩
                  replace hDr := hDr.step hwd
                  clear hwd
                  refine hK.out _ _ (fun _ => hDr) ?_
                  (try simp only [Act.put, List.setIfInBounds_toArray, List.set_cons_zero, List.set_cons_succ])
                  clear hK K
                  repeat (first | (apply ord_tk rfl (by rfl) (by rfl) (by rfl); (focus (rintro w ⟨dm, rfl⟩; go_simp; (try with_reducible rfl))); (try simp only [Act.put, List.setIfInBounds_toArray, List.set_cons_zero, List.set_cons_succ])) | (apply ord_skip rfl (by rfl) (by rfl) (fun _ => hDr); (try simp only [Act.put, List.setIfInBounds_toArray, List.set_cons_zero, List.set_cons_succ])))
                  refine ord_nil ?_
                  obtain ⟨dk, rfl⟩ := Dr.trans ⟨d3, rfl⟩ hDr
                  clear hDr
                  go_wp2_with fail
                  go_roundw
                  case rel => exact ⟨y + 1, by omega, by go_num, hide fun j hj => (by rcases Nat.lt_succ_iff_lt_or_eq.1 hj with h | rfl; exact HY.out j h; rw [EV.out]; exact hv), dk, rfl⟩
                  case measure => simp [intOf] <;> omega
                · have hE := hide (not_ch_num (os := os) HA.out HR.out (i := y) (by rw [HL2.out]; exact hly) (by rw [EV.out]; exact hv))
                  go_wp2_with fail
                  refine wp_region_dr [0, 1, 2, 3, 4, 5, 6, 7, 8, 9, 10, 11, 12, 13, 14, 15] 16 (W.drewN d3) (by kernel_rfl) (by kernel_rfl) (by kernel_rfl) (fun _ _ _ _ _ h => h) (Dr.refl _) (fun wd hDr => ?_)
                  repeat (first | (apply ord_tk rfl (by rfl) (by rfl) (by rfl); (focus (rintro w ⟨dm, rfl⟩; go_simp; (try with_reducible rfl))); (try simp only [Act.put, List.setIfInBounds_toArray, List.set_cons_zero, List.set_cons_succ])) | (apply ord_skip rfl (by rfl) (by rfl) (fun _ => hDr); (try simp only [Act.put, List.setIfInBounds_toArray, List.set_cons_zero, List.set_cons_succ])))
                  refine ord_do rfl (by rfl) (by rfl) (fun K hK => ?_)
                  go_simp
                  refine (l01In_f v 0 (M - 1) _ hv).mono ?_
                  rintro e wd' ⟨rfl, dm, hwd⟩
                  replace hDr := hDr.step hwd
                  clear hwd
                  refine hK.out _ _ (fun _ => hDr) ?_
                  (try simp only [Act.put, List.setIfInBounds_toArray, List.set_cons_zero, List.set_cons_succ])
                  clear hK K
                  repeat (first | (apply ord_tk rfl (by rfl) (by rfl) (by rfl); (focus (rintro w ⟨dm, rfl⟩; go_simp; (try with_reducible rfl))); (try simp only [Act.put, List.setIfInBounds_toArray, List.set_cons_zero, List.set_cons_succ])) | (apply ord_skip rfl (by rfl) (by rfl) (fun _ => hDr); (try simp only [Act.put, List.setIfInBounds_toArray, List.set_cons_zero, List.set_cons_succ])))
                  refine ord_nil ?_
                  obtain ⟨dk, rfl⟩ := Dr.trans ⟨d3, rfl⟩ hDr
                  clear hDr
                  go_wp2_with fail
                  go_ret
                  exact ⟨by rw [hE.out]; rfl, below_drewN hbW _⟩
              · obtain rfl : y = t.length := by omega
                have hR := hide (rowM_of HL2.out HY.out)
                go_wp2_with fail
                go_roundw
                case rel => exact ⟨z + 1, by omega, by go_num, hide fun j r' hj hr' => (by rcases Nat.lt_succ_iff_lt_or_eq.1 hj with h | rfl; exact HQ.out j r' h hr'; rw [HR.out] at hr'; injection hr' with hr'; rw [← hr']; exact hR.out), _, rfl⟩
                case measure => simp [intOf] <;> omega
          · obtain rfl : z = t.length := by omega
            have hR := hide (show MatM t.length M a from ⟨HL.out, all_get' fun j r hj => HQ.out j r (by have := get_lt hj; have := HL.out; omega) hj⟩)
            go_wp2_with fail
            go_roundw
            case rel => exact ⟨k + 1, by omega, by go_num, hide fun j r' hj hr' => (by rcases Nat.lt_succ_iff_lt_or_eq.1 hj with h | rfl; exact HP.out j r' h hr'; rw [HA.out] at hr'; injection hr' with hr'; rw [← hr']; exact hR.out), _, rfl⟩
            case measure => simp [intOf] <;> omega
      · obtain rfl : k = t.length := by omega
        have hE := hide (chB_t (os := os) (m := M) ⟨hO, by have := HYP.out; omega, m1, m2, HYP.out, all_get' fun j a hj => HP.out j a (get_lt hj) hj⟩)
        go_wp2_with fail
        go_ret
        exact ⟨by rw [hE.out]; rfl, below_drewN hbW _⟩
end Go.Proofs.Ythjlpgaoemdmkaa
