
/- The walk of l07All and of the reference's CountRingTables. -/
import Derived.Test.YteobaodabjdcaaaCG3
import Derived.Deep.DeepCutAuto
namespace Go.Proofs.Yteobaodabjdcaaa
open Go Go.RowKit
set_option linter.unusedSimpArgs false
set_option linter.unusedVariables false
set_option maxRecDepth 100000
theorem ringsOwR_nil (w : World) (B g : Nat) (hg : w.heap.size = g) (hB : B ≤ g) : OwR (w.alloc (.cells #[] 31)) B (.slice (some ⟨g, 0, none⟩) 0 0) 0 (fun _ => False) := ⟨[], rfl, OwV.made w _ g hg hB, fun _ _ h => h⟩
theorem OwR.sep {w w' : World} {B len : Nat} {v : Value} {fp fq : Nat → Prop} (h : OwR w B v len fp) (hq : ∀ b, fq b → w.heap.size ≤ b) : OwR w B v len fq := by
  obtain ⟨us, h1, h2, h3⟩ := h
  exact ⟨us, h1, h2, fun b hb hf => by have := (h2.lt b hb).2; have := hq b hf; omega⟩
theorem E1.of_blk {w : World} {v : Value} {xs : List Int} {g n : Nat} {cs : Array Value} (hv : v = .slice (some ⟨g, 0, none⟩) n n) (hb : Blk w g 2 cs) (hc : cs.toList = xs.map (Value.int .i64)) (hn : xs.length = n) (hm : n ≤ maxLen) (hr : ∀ x ∈ xs, i64ok x) : E1 w v xs (fun b => b = g) := by
  subst hv; subst hn
  have hcs : cs.size = xs.length := by rw [← Array.length_toList, hc, List.length_map]
  refine ⟨⟨by simp, .inr ⟨g, _, cs, rfl, Nat.zero_le _, hb, Nat.le_refl _, hm, by rw [hcs]; simp, ?_⟩⟩, hr, fun b hb => ?_, fun b hbb => by rw [hbb]; exact hb.lt⟩
  · rw [hc, List.take_of_length_le (by simp)]
  · simp only [Value.ownBlock, Option.some.injEq] at hb; exact hb.symm
theorem E2.nil (w : World) : E2 w (.slice none 0 0) [] (fun _ => False) := ⟨⟨[], fun _ _ => False, ⟨rfl, .inl ⟨rfl, rfl⟩⟩, rfl, fun k u x h => by simp at h, fun j k b h => h.elim, fun k b h => h.elim⟩, fun b hb => by simp [Value.ownBlock] at hb, fun b h => h.elim⟩
set_option maxHeartbeats 8000000 in
theorem l07All_any (w : World) (n m : Nat) (h1 : 1 ≤ n) (h3 : n ≤ 3) (hm : m ≤ 4) :
    Calls Try.prog 7 #[.int .i64 n, .int .i64 m] w (fun e w' => ∃ v, e = .returned v ∧ OwR w' w.heap.size v (ringsC n m) (fun _ => False) ∧ Below w.heap.size w w') := by
  have hcnt := hide (cnt_all (m := m) h1 h3)
  have hlen2 := ordL_le h1 h3
  obtain ⟨L, hL⟩ : ∃ L, (ordL n).length = L := ⟨_, rfl⟩
  have HL := hide hL
  rw [hL] at hlen2 hcnt
  clear hL
  go_enter Try.func7, Try.ntmps7
  go_wp2_with fail
  have hb1 : Below w.heap.size w ((w.alloc (.cells #[] 31)).alloc (.cells #[.int .i64 0] 2)) := (by repeat (first | assumption | exact Below.refl _ _ | apply below_drewN | apply Below.drew | apply Below.alloc | apply Below.setCell | omega | (focus (simp; done)) | (focus (simp; omega))))
  have hO1 := (ringsOwR_nil w w.heap.size w.heap.size rfl (Nat.le_refl _)).bel ((Below.refl _ _).alloc (Nat.le_refl _) (.cells #[.int .i64 0] 2))
  have hBk : Blk ((w.alloc (.cells #[] 31)).alloc (.cells #[.int .i64 0] 2)) (w.heap.size + 1) 2 #[.int .i64 0] := Blk.new' _ _ _ _ (by simp)
  have hz1 : ((w.alloc (.cells #[] 31)).alloc (.cells #[.int .i64 0] 2)).heap.size = w.heap.size + 2 := by simp
  obtain ⟨w1, hw1⟩ : ∃ w1, (w.alloc (.cells #[] 31)).alloc (.cells #[.int .i64 0] 2) = w1 := ⟨_, rfl⟩
  rw [hw1] at hb1 hO1 hBk hz1 ⊢
  clear hw1
  have hE0 : E1 w1 (.slice (some ⟨w.heap.size + 1, 0, none⟩) 1 1) [0] (fun b => b = w.heap.size + 1) := E1.of_blk rfl hBk rfl rfl (by unfold maxLen; omega) (by intro x hx; rw [List.mem_singleton.1 hx]; exact ⟨by omega, by omega⟩)
  have hOr := hide (orders_any n h1 (by omega) (n - 1) w1 0 _ _ [0] [] _ (fun _ => False) (Nat.zero_le _) hE0 (E2.nil w1) (fun b _ => ⟨fun h => h, Nat.zero_le _⟩) (fun b _ => Nat.zero_le _) (by simp; omega) (by
    have : n ^ (n - 1) ≤ 3 ^ 2 := Nat.le_trans (Nat.pow_le_pow_left h3 _) (Nat.pow_le_pow_right (by omega) (by omega))
    simp; omega))
  refine hOr.out.mono ?_
  rintro e w2 ⟨v2, rfl, hE2, hW2⟩
  have hs2 := hW2.size
  have hE2' : E2 w2 v2 (ordL n) (fun b => w.heap.size + 1 ≤ b ∧ b < w2.heap.size) := OwL.mono hE2 (fun b hb => by rcases hb with hb | hb | hb; exact hb.elim; omega; omega) (fun b hb => hb.2)
  have hB2 : Below w.heap.size w w2 := hb1.trans (hW2.below (fun b hb => hb.elim) (by omega))
  have hO2 : OwR w2 w.heap.size (.slice (some ⟨w.heap.size, 0, none⟩) 0 0) (cntC n m 0) (fun b => w.heap.size + 1 ≤ b ∧ b < w2.heap.size) := by
    obtain ⟨us, k1, k2, k3⟩ := hO1.wr (hW2.mono fun b hb => hb.elim)
    exact ⟨us, k1, k2, fun b hb hf => by simp [Value.ownBlock] at hb; omega⟩
  obtain ⟨A2, c2, rfl, hSo⟩ := E2.sl2 hE2'
  rw [HL.out] at hE2' hSo ⊢
  have hL1 := hSo.len
  clear hE2 hOr hE0 hBk hO1 hb1 hSo
  go_wp2_with fail
  go_loopw [5, 7] (fun o a wr => ∃ (k : Nat) (ov : Value), k ≤ L ∧ a = .int .i64 k ∧ ov = o ∧ OwR wr w.heap.size ov (cntC n m k) (fun b => w.heap.size + 1 ≤ b ∧ b < w2.heap.size) ∧ Below w.heap.size w wr ∧ w2.heap.size ≤ wr.heap.size ∧ ∀ b, (w.heap.size + 1 ≤ b ∧ b < w2.heap.size) → wr.heap[b]? = w2.heap[b]?) (fun _ a _ => L - (intOf a).toNat)
  case atStart => exact ⟨0, _, by omega, rfl, rfl, hO2, hB2, Nat.le_refl _, fun _ _ => rfl⟩
  case round =>
    clear hO2 hB2
    obtain ⟨k, ov, hk, rfl, rfl, hO, hB, hsz, hK⟩ := hrel
    by_cases hlt : k < L
    · obtain ⟨xs, d, hx, hD⟩ := dl_of (m := m) h1 h3 (by rw [HL.out]; exact hlt)
      have hEr := kp2 _ _ _ _ _ hE2' hK hsz
      obtain ⟨A2', c2', e, hS⟩ := E2.sl2 hEr
      rw [HL.out] at e hS
      injection e with e1 _ e2
      subst e1; subst e2
      obtain ⟨b2, o2, rfl, hb2⟩ := RdL.addr hS (by omega)
      obtain ⟨A3, n3, c3, hc, hS3⟩ := hS.row hx
      obtain rfl : n3 = n := by rw [← hS3.len, hD.len]
      obtain ⟨b3, o3, rfl, hb3, hc3⟩ := hS3.at_ (by omega)
      have hcd := hide (fun i (hi : i < n3) => (hc3 i hi).trans (by rw [hD.at_ i hi]))
      have hcap3 := hS3.cap
      have hk1 : k ≤ 1 := by omega
      clear hc3 hS3 hS hEr hx
      obtain ⟨wk, hwk⟩ : ∃ wk, wk = wr := ⟨_, rfl⟩
      subst hwk
      go_wp2_with fail
      go_loopw [9, 10] (fun t i wr => ∃ j : Nat, j ≤ n3 ∧ i = .int .i64 j ∧ t = .bool true ∧ wr = wk) (fun _ i _ => n3 - (intOf i).toNat)
      case atStart => exact ⟨0, by omega, rfl, rfl, rfl⟩
      case round =>
        obtain ⟨j, hj, rfl, rfl, rfl⟩ := hrel
        by_cases hlj : j < n3
        · have q1 := hcd.out j hlj
          have q2 := hcd.out (d j) (hD.lt j hlj)
          rw [hD.tw j hlj] at q2
          obtain ⟨x, hx⟩ : ∃ x, d j = x := ⟨_, rfl⟩
          have hxl := hD.lt j hlj
          rw [hx] at q1 q2 hxl
          clear hx
          go_wp2_with fail
          go_roundw
          case rel => exact ⟨j + 1, by omega, by go_num, by simp⟩
          case measure => simp [intOf] <;> omega
        · obtain rfl : j = n3 := by omega
          have hEm := hide (l06Empty_any wr j (by omega))
          go_wp2_with fail
          refine hEm.out.mono ?_
          rintro e w5 ⟨v5, rfl, hG5, hb5⟩
          obtain ⟨wk, rfl⟩ : ∃ wk, wk = wr := ⟨_, rfl⟩
          have hE5 := hG5.toL
          rw [rep_cub, ← bT_zero d] at hE5
          have hE5' : E3 w5 v5 (cub j (bT d 0)) (fun b => wk.heap.size ≤ b ∧ b < w5.heap.size) := OwL.mono hE5 (fun b hb => hb) (fun b hb => hb.2)
          have hs5 := hb5.size
          obtain ⟨A5, c5, rfl, hS5⟩ := E3.sl3 hE5'
          rw [cb_len] at hE5' hS5 ⊢
          obtain ⟨b5, o5, rfl, hb5a⟩ := RdL.addr hS5 (by omega)
          have hcap5 := hS5.cap
          clear hS5 hE5 hG5 hEm
          go_wp2_with fail
          go_loopw [12] (fun i wx => ∃ q : Nat, q ≤ j ∧ i = .int .i64 q ∧ E3 wx (.slice (some ⟨b5, o5, none⟩) j c5) (cub j (bT d q)) (fun b => wk.heap.size ≤ b ∧ b < w5.heap.size) ∧ Wr w5 wx (fun b => wk.heap.size ≤ b ∧ b < w5.heap.size)) (fun i _ => j - (intOf i).toNat)
          case atStart => exact ⟨0, by omega, rfl, hE5', Wr.refl _ _⟩
          case round =>
            obtain ⟨q, hq, rfl, hEq, hWq⟩ := hrel
            by_cases hlq : q < j
            · have h1i : i64ok 1 := ⟨by omega, by omega⟩
              have hcq := hcd.out q hlq
              have hdq := hD.lt q hlq
              obtain ⟨x, hx⟩ : ∃ x, d q = x := ⟨_, rfl⟩
              have HX := hide hx
              rw [hx] at hcq hdq
              clear hx
              have hb3w : b3 < wr.heap.size := by have := hWq.size; omega
              have hcw : wr.cell? ⟨b3, o3 + q, none⟩ = some (.int .i64 x) := by
                have e1 := hWq.block b3 (by omega) (fun h => by omega)
                have e2 := hb5.block b3 hb3
                simp only [World.cell?] at hcq ⊢
                rw [e1, e2]; exact hcq
              obtain ⟨g, g1, g2, cc, c1', c2', e, k0, k1, ⟨u0, k2⟩, k3, k4, hE2⟩ := hEq.put (show 0 < j by omega) hlq hlq h1i
              injection e with e1 _ e2
              injection e1 with e1
              injection e1 with e1 e3 _
              subst e1; subst e2; subst e3
              have hWs : Wr w5 (wr.setCell ⟨g2, q, none⟩ (.int .i64 1)) (fun b => wk.heap.size ≤ b ∧ b < w5.heap.size) := hWq.trans ⟨rfl, rfl, rfl, by simp [World.setCell], fun b' _ hn => Below.heap_setCell _ _ _ _ (fun e => hn (by have e' : b' = g2 := e; rw [e']; exact k4))⟩
              have hcs : (wr.setCell ⟨g2, q, none⟩ (.int .i64 1)).cell? ⟨b3, o3 + q, none⟩ = some (.int .i64 x) := (World.cell?_setCell_other wr ⟨g2, q, none⟩ ⟨b3, o3 + q, none⟩ _ (fun e => by injection e with e1; rw [← e1] at hb3; omega)).trans hcw
              obtain ⟨W1, hW1⟩ : ∃ W1, wr.setCell ⟨g2, q, none⟩ (.int .i64 1) = W1 := ⟨_, rfl⟩
              rw [hW1] at hE2 hWs hcs
              go_upto_region 17 with fail
              clear k0 k1 k2 k3 hW1
              obtain ⟨g, g1, g2, cc, c1', c2', e, k0, k1, ⟨u0, k2⟩, k3, k4, hE3⟩ := hE2.put hlq (show 0 < j by omega) hlq h1i
              obtain ⟨rfl, rfl⟩ : b5 = g ∧ c5 = cc := by cases e; exact ⟨rfl, rfl⟩
              have hWt : Wr w5 (W1.setCell ⟨g2, q, none⟩ (.int .i64 1)) (fun b => wk.heap.size ≤ b ∧ b < w5.heap.size) := hWs.trans ⟨rfl, rfl, rfl, by simp [World.setCell], fun b' _ hn => Below.heap_setCell _ _ _ _ (fun e => hn (by have e' : b' = g2 := e; rw [e']; exact k4))⟩
              have hct : (W1.setCell ⟨g2, q, none⟩ (.int .i64 1)).cell? ⟨b3, o3 + q, none⟩ = some (.int .i64 x) := (World.cell?_setCell_other W1 ⟨g2, q, none⟩ ⟨b3, o3 + q, none⟩ _ (fun e => by injection e with e1; rw [← e1] at hb3; omega)).trans hcs
              obtain ⟨W2, hW2e⟩ : ∃ W2, W1.setCell ⟨g2, q, none⟩ (.int .i64 1) = W2 := ⟨_, rfl⟩
              rw [hW2e] at hE3 hWt hct
              clear hE2 hWs hcs
              go_upto_region 18 with fail
              clear k0 k1 k2 k3 hW2e
              obtain ⟨g, g1, g2, cc, c1', c2', e, hg0, hg1, hg2, k0, k1, ⟨u0, k2⟩, k3, k4, hE4⟩ := hE3.put_later hlq hdq (show 0 < j by omega) h1i
              obtain ⟨rfl, rfl⟩ : b5 = g ∧ c5 = cc := by cases e; exact ⟨rfl, rfl⟩
              have hz5 := hWt.size
              have hb3t : b3 < W2.heap.size := by omega
              refine wp_region_be [0, 1, 2, 3, 4, 5, 6, 7, 8, 9, 10, 11] 10 W2.heap.size W2 (by kernel_rfl) (by kernel_rfl) (by kernel_rfl) (fun _ _ _ _ _ h => h) (Below.refl _ _) (fun wd hBe => ?_)
              repeat (first | (apply ord_tk rfl (by rfl) (by rfl) (by rfl); (focus (intro wx hSw; have s0 := (hSw.cell (p := ⟨b5, q, none⟩) hg0).trans k0; have s1 := (hSw.cell (p := ⟨g1, x, none⟩) hg1).trans k1; have s2 := (hSw.cell (p := ⟨b3, o3 + q, none⟩) hb3t).trans hct; go_simp; (try with_reducible rfl))); (try simp only [Act.put, List.setIfInBounds_toArray, List.set_cons_zero, List.set_cons_succ])) | (apply ord_skip rfl (by rfl) (by rfl) (fun _ => hBe); (try simp only [Act.put, List.setIfInBounds_toArray, List.set_cons_zero, List.set_cons_succ])))
              have t2 := (hBe.cell (p := ⟨g2, 0, none⟩) hg2).trans k2
              have t3 : wd.frozen? ⟨g2, 0, none⟩ = false := (hBe.frozen (p := ⟨g2, 0, none⟩) hg2).trans k3
              have hj0 : 0 < j := by omega
              refine ord_do rfl (by rfl) (by rfl) (fun K hK => ?_)
              go_simp
              refine hK.out _ _ (fun h => absurd h (by omega)) ?_
              (try simp only [Act.put, List.setIfInBounds_toArray, List.set_cons_zero, List.set_cons_succ])
              clear hK K
              refine ord_do rfl (by rfl) (by rfl) (fun K hK => ?_)
              go_simp
              refine hK.out _ _ (fun h => absurd h (by omega)) ?_
              (try simp only [Act.put, List.setIfInBounds_toArray, List.set_cons_zero, List.set_cons_succ])
              clear hK K
              refine ord_nil ?_
              have hE5 := hE4 wd hBe
              rw [← HX.out, bT_step] at hE5
              have hW5 : Wr w5 (wd.setCell ⟨g2, 0, none⟩ (.int .i64 1)) (fun b => wk.heap.size ≤ b ∧ b < w5.heap.size) := (hWt.trans (Wr.of_below hBe)).trans ⟨rfl, rfl, rfl, by simp [World.setCell], fun b' _ hn => Below.heap_setCell _ _ _ _ (fun e => hn (by have e' : b' = g2 := e; rw [e']; exact k4))⟩
              clear hE4 hWt k0 k1 k2 k3 hct t2 t3 hBe
              go_wp2_with fail
              go_roundw
              case rel => exact ⟨q + 1, by omega, by go_num, hE5, hW5⟩
              case measure => simp [intOf] <;> omega
            · obtain rfl : q = j := by omega
              rw [bT_all hD.z hD.tw] at hEq
              have hzq := hWq.size
              have hBq : Below wk.heap.size wk wr := hb5.trans (hWq.below (fun b hb => hb.1) (by omega))
              have hOq : OwR wr w.heap.size ov (cntC q m k) (fun b => (wk.heap.size ≤ b ∧ b < w5.heap.size) ∨ (w.heap.size + 1 ≤ b ∧ b < w2.heap.size)) := by
                obtain ⟨us, y1, y2, y3⟩ := hO.bel hBq
                obtain ⟨us', x1, x2, x3⟩ := hO
                exact ⟨us, y1, y2, fun b hb hf => by rcases hf with hf | hf; (have := (x2.lt b hb).2; omega); exact y3 b hb hf⟩
              have hKq : ∀ b, (w.heap.size + 1 ≤ b ∧ b < w2.heap.size) → wr.heap[b]? = w2.heap[b]? := fun b hb => (hBq.block b (by omega)).trans (hK b hb)
              have hGr := hide (grow_any q (q - 1) m w.heap.size (fun b => wk.heap.size ≤ b ∧ b < w5.heap.size) (fun b => w.heap.size + 1 ≤ b ∧ b < w2.heap.size) (by omega) (by omega) hm (fun b hb => by have := hB.size; omega) (fun b hb hb' => by omega) ((q - 1) * (q - 1) * (q - 1)) 0 wr (baseT d) _ ov (cntC q m k) (by omega) hEq hOq (by have := hB.size; omega) (fun b hb => by omega) (baseT_rng d) hD.du (fun a b c _ _ _ _ => baseT_zero d a b c) (cnt_le h3 hm hk1))
              rw [← hD.cnt] at hGr
              have hBw := hB.trans (hBq.mono hB.size)
              clear hO hOq hEq
              go_wp2_with fail
              refine hGr.out.mono ?_
              rintro e w9 ⟨v9, rfl, hO9, hE9, hB9, hK9⟩
              have hO9' : OwR w9 w.heap.size v9 (cntC q m (k + 1)) (fun b => w.heap.size + 1 ≤ b ∧ b < w2.heap.size) := by
                obtain ⟨us, y1, y2, y3⟩ := hO9
                exact ⟨us, y1, y2, fun b hb hf => y3 b hb (.inr hf)⟩
              have hz9 := hB9.size
              have hK9' := fun b hb => (hK9 b hb).trans (hKq b hb)
              have hBz := hBw.trans hB9
              clear hO9 hE9
              go_wp2_with fail
              go_roundw
              case rel => exact ⟨k + 1, _, by omega, by go_num, rfl, hO9', hBz, by omega, hK9'⟩
              case measure => simp [intOf] <;> omega
    · obtain rfl : k = L := by omega
      rw [hcnt.out] at hO
      have hOf : OwR wr w.heap.size ov (ringsC n m) (fun _ => False) := by
        obtain ⟨us, y1, y2, y3⟩ := hO
        exact ⟨us, y1, y2, fun b hb hf => hf⟩
      have hPo := hide (show ∃ v, Ending.returned ov = .returned v ∧ OwR wr w.heap.size v (ringsC n m) (fun _ => False) ∧ Below w.heap.size w wr from ⟨ov, rfl, hOf, hB⟩)
      clear hO hOf hB
      go_wp2_with fail
      go_ret
      exact hPo.out
end Go.Proofs.Yteobaodabjdcaaa
