
/- The walk of turned: the orbit of a triple under the turns of duals. -/
import Derived.Test.YteobaodabjdcaaaCP2
import Derived.Test.YteobaodabjdcaaaLa
import Derived.Deep.DeepCutAuto
namespace Go.Proofs.Yteobaodabjdcaaa
open Go Go.RowKit
set_option linter.unusedSimpArgs false
set_option linter.unusedVariables false
set_option maxRecDepth 100000
def nx1 (d : Nat → Nat) (x : T3) : T3 := (d x.1, x.2.2, x.2.1)
def nx2 (d : Nat → Nat) (x : T3) : T3 := (x.2.2, d x.2.1, x.1)
def adT (l : List T3) (x : T3) : List T3 := if x ∈ l then l else l ++ [x]
/-- The list when k of its elements have been turned. -/
def outK (d : Nat → Nat) (t : T3) : Nat → List T3
  | 0 => [t]
  | k + 1 => adT (adT (outK d t k) (nx1 d ((outK d t k).getD k (0, 0, 0)))) (nx2 d ((outK d t k).getD k (0, 0, 0)))
/-- What is told of the turns of a triple: they end behind K elements. -/
structure Trn (n : Nat) (d : Nat → Nat) (t : T3) (K : Nat) : Prop where
  len : ∀ k, k < K → k < (outK d t k).length
  fin : (outK d t K).length = K
  inn : ∀ k, k < K → ((outK d t k).getD k (0, 0, 0)).1 < n ∧ ((outK d t k).getD k (0, 0, 0)).2.1 < n ∧ ((outK d t k).getD k (0, 0, 0)).2.2 < n ∧ nx1 d ((outK d t k).getD k (0, 0, 0)) ∈ trs3 ∧ nx2 d ((outK d t k).getD k (0, 0, 0)) ∈ trs3
  mem : ∀ k, k ≤ K → ∀ x ∈ outK d t k, x ∈ trs3
  ll : ∀ k, k ≤ K → (outK d t k).length ≤ 8
theorem tri_info : (Try.prog.info? 49).map (fun i => (i.zero, i.size, i.bytes)) = some (some (.agg #[.int .i64 0, .int .i64 0, .int .i64 0]), 3, 24) := by kernel_rfl
theorem OwT.below {w w' : World} {B : Nat} {v : Value} {l : List T3} (h : OwT w B v l) (hb : Below w.heap.size w w') : OwT w' B v l := by
  obtain ⟨h1, h2⟩ := h
  refine ⟨h1, ?_⟩
  rcases h2 with h2 | ⟨g, cap, cur, hv, hg, hh, h3⟩
  · exact .inl h2
  · have hl : g < w.heap.size := by
      rcases Nat.lt_or_ge g w.heap.size with h | h
      · exact h
      · rw [Array.getElem?_eq_none h] at hh; cases hh
    exact .inr ⟨g, cap, cur, hv, hg, (hb.block g hl).trans hh, h3⟩
theorem OwT.made (w : World) (B g : Nat) (t : T3) (hg : w.heap.size = g) (hB : B ≤ g) : OwT (w.alloc (.cells #[.int .i64 t.1, .int .i64 t.2.1, .int .i64 t.2.2] 49)) B (.slice (some ⟨g, 0, none⟩) 1 1) [t] := by
  subst hg
  exact ⟨rfl, .inr ⟨w.heap.size, 1, _, rfl, hB, heap_alloc_new w _, Nat.le_refl _, by unfold maxLen; decide, rfl, rfl⟩⟩
section
variable {ops : Array Oper} {rest : List Oper} {o : Oper} {a : Act} {K : Act → World → Prop} {Q : Exit → Act → World → Prop}
theorem list_pushT (w : World) (hgd : o.guard = none) (s x : Operand)
    (ho : o.op = .call { callee := .builtin .append, args := #[s, x], argTypes := #[50, 50] })
    (B : Nat) (v : Value) (l : List T3) (hs : a.eval s = v) (hown : OwT w B v l) (t : T3) (H : Nat) (hx : a.eval x = .slice (some ⟨H, 0, none⟩) 1 1) (hb : Blk w H 49 #[.int .i64 t.1, .int .i64 t.2.1, .int .i64 t.2.2])
    (hn : l.length ≤ 1048576) (hB : B ≤ w.heap.size) (hH : w.heap.size = H + 1)
    (h : ∀ g cap w', OwT w' B (.slice (some ⟨g, 0, none⟩) (l.length + 1) cap) (l ++ [t]) → Below B w w' → w.grownBy w' v.ownBlock → (v.ownBlock = some g ∨ g = H + 1) → wpList Try.prog ops Q rest (a.put o.dst (.slice (some ⟨g, 0, none⟩) (l.length + 1) cap)) w') :
    wpList Try.prog ops Q (o :: rest) a w := by
  obtain ⟨i0, hi0, hz0, hz1, hz2⟩ := info_parts tri_info
  refine wpList_append_lies w hgd s x _ ho B 49 i0 _ 3 24 Try.underlying50 hi0 hz0 hz1 hz2 rfl (by omega) v l.length _ hs hown ⟨H, 0, none⟩ 1 1 (tc t) hx rfl
    (World.news_of_block (cs := #[.int .i64 t.1, .int .i64 t.2.1, .int .i64 t.2.2]) hb) (by simp [tc, Value.oneCell']) (by omega) (by unfold maxLen; omega) (by omega) hB (H + 1) hH ?_
  intro g cap w' h2 h3 h4 h5
  refine h g cap w' ?_ ((Below.refl _ _).grown h3 hB fun k hk => (World.ownsRow.lt hown k hk).1) h3 h4
  unfold OwT
  simpa using h2
end
/-- It returned a list of triples of its own. -/
def MkT (w : World) (l : List T3) (e : Ending) (w' : World) : Prop := ∃ v, e = .returned v ∧ OwT w' w.heap.size v l ∧ Below w.heap.size w w'
set_option maxHeartbeats 8000000 in
theorem turned_any (w : World) (B : Nat) (A : Option Addr) (n c K : Nat) (dl : List Int) (d : Nat → Nat) (t : T3) (h : Sl w B A n c dl) (hB : B ≤ w.heap.size) (hn : n ≤ 3) (hd : ∀ i, i < n → gi dl i = (d i : Int)) (hdn : ∀ i, i < n → d i < n) (hT : Trn n d t K) :
    Calls Try.prog 22 #[.slice A n c, tv t] w (MkT w (outK d t K)) := by
  unfold tv
  have hO0 := OwT.made (w.alloc (.cells #[.int .i64 t.1, .int .i64 t.2.1, .int .i64 t.2.2] 49)) w.heap.size (w.heap.size + 1) t (by simp) (by omega)
  have hb0 : Below w.heap.size w ((w.alloc (.cells #[.int .i64 t.1, .int .i64 t.2.1, .int .i64 t.2.2] 49)).alloc (.cells #[.int .i64 t.1, .int .i64 t.2.1, .int .i64 t.2.2] 49)) := (by repeat (first | assumption | exact Below.refl _ _ | apply below_drewN | apply Below.drew | apply Below.alloc | apply Below.setCell | omega | (focus (simp; done)) | (focus (simp; omega))))
  go_enter Try.func22, Try.ntmps22
  go_wp2_with fail
  obtain ⟨W0, hW0⟩ : ∃ W, (w.alloc (.cells #[.int .i64 t.1, .int .i64 t.2.1, .int .i64 t.2.2] 49)).alloc (.cells #[.int .i64 t.1, .int .i64 t.2.1, .int .i64 t.2.2] 49) = W := ⟨_, rfl⟩
  rw [hW0] at hO0 hb0 ⊢
  clear hW0
  go_loopw [5, 6] (fun o i wr => ∃ (k : Nat) (v : Value), k ≤ K ∧ i = .int .i64 k ∧ v = o ∧ OwT wr w.heap.size v (outK d t k) ∧ Below w.heap.size w wr) (fun _ i _ => K - (intOf i).toNat)
  case atStart => exact ⟨0, _, by omega, rfl, rfl, hO0, hb0⟩
  case round =>
    clear hO0 hb0
    obtain ⟨k, v, hk, rfl, rfl, hO, hBw⟩ := hrel
    by_cases hlt : k < K
    · have hl := hT.len k hlt
      obtain ⟨hi, hj, hq, hm1, hm2⟩ := hT.inn k hlt
      have hmem := hT.mem k hk
      have hmem2 := hT.mem (k + 1) hlt
      have hle8 := hT.ll k hk
      have hle9 := hT.ll (k + 1) hlt
      obtain ⟨L, hL⟩ : ∃ L, outK d t k = L := ⟨_, rfl⟩
      have hnx : outK d t (k + 1) = adT (adT L (nx1 d (L.getD k (0, 0, 0)))) (nx2 d (L.getD k (0, 0, 0))) := by rw [← hL]; rfl
      rw [hL] at hl hi hj hq hm1 hm2 hmem hO hle8
      have hx : L[k]? = some (L.getD k (0, 0, 0)) := by rw [List.getD_eq_getElem?_getD, List.getElem?_eq_getElem hl]; rfl
      obtain ⟨⟨i, j, q⟩, hxe⟩ : ∃ x, L.getD k (0, 0, 0) = x := ⟨_, rfl⟩
      rw [hxe] at hi hj hq hm1 hm2 hx hnx
      simp only at hi hj hq
      obtain ⟨g, cv, rfl, hgw, hS⟩ := hO.sl (by intro e; rw [e] at hl; simp at hl)
      obtain ⟨c0, c1, c2⟩ := hS.at_ k _ hx
      simp only at c0 c1 c2
      have hgl := hS.lt
      obtain ⟨bd, od, rfl, hbd, hdc⟩ := h.at_ (by omega)
      have e1 := (hBw.cell (p := ⟨bd, od + i, none⟩) (by show bd < _; omega)).trans ((hdc i hi).trans (by rw [hd i hi]))
      have e2 := (hBw.cell (p := ⟨bd, od + j, none⟩) (by show bd < _; omega)).trans ((hdc j hj).trans (by rw [hd j hj]))
      have hbdw : bd < wr.heap.size := by have := hBw.size; omega
      have hcap := h.cap
      obtain ⟨len, hlen⟩ : ∃ len, L.length = len := ⟨_, rfl⟩
      rw [hlen] at hl hS hle8 hO ⊢
      have hcv := hS.cap
      obtain ⟨di, hdi⟩ : ∃ y, d i = y := ⟨_, rfl⟩
      obtain ⟨dj, hdj⟩ : ∃ y, d j = y := ⟨_, rfl⟩
      have h1 : nx1 d (i, j, q) = (di, q, j) := by rw [← hdi]; rfl
      have h2 : nx2 d (i, j, q) = (q, dj, i) := by rw [← hdj]; rfl
      rw [h1] at hm1 hnx
      rw [h2] at hm2 hnx
      rw [hdi] at e1
      rw [hdj] at e2
      have HNX := hide hnx
      have HLN := hide hlen
      clear hx hxe h1 h2 hdi hdj hnx hL hlen
      go_wp2_with fail
      obtain ⟨wk, hwk⟩ : ∃ wk, wk = wr := ⟨_, rfl⟩
      subst hwk
      refine wp_region_be [0, 1, 2, 3, 4, 5, 6, 7, 8, 9, 10, 11, 12, 13, 14, 15, 16, 17] 17 wk.heap.size wk (by kernel_rfl) (by kernel_rfl) (by kernel_rfl) (fun _ _ _ _ _ h => h) (Below.refl _ _) (fun wd hBe => ?_)
      repeat (first | (apply ord_tk rfl (by rfl) (by rfl) (by rfl); (focus (intro wx hSw; have s0 := (hSw.cell (p := ⟨g, k * 3, none⟩) hgl).trans c0; have s1 := (hSw.cell (p := ⟨g, k * 3 + 1, none⟩) hgl).trans c1; have s2 := (hSw.cell (p := ⟨g, k * 3 + 2, none⟩) hgl).trans c2; go_simp; (try with_reducible rfl))); (try simp only [Act.put, List.setIfInBounds_toArray, List.set_cons_zero, List.set_cons_succ])) | (apply ord_skip rfl (by rfl) (by rfl) (fun _ => hBe); (try simp only [Act.put, List.setIfInBounds_toArray, List.set_cons_zero, List.set_cons_succ])))
      refine ord_do rfl (by rfl) (by rfl) (fun K hK => ?_)
      go_simp
      refine hK.out _ _ (fun h => absurd h (by omega)) ?_
      (try simp only [Act.put, List.setIfInBounds_toArray, List.set_cons_zero, List.set_cons_succ])
      clear hK K
      refine ord_nil ?_
      have hzd := hBe.size
      have hOd := hO.below hBe
      have f1 := (hBe.cell (p := ⟨bd, od + i, none⟩) hbdw).trans e1
      have f2 := (hBe.cell (p := ⟨bd, od + j, none⟩) hbdw).trans e2
      have hBw2 := hBw.trans (hBe.mono hBw.size)
      obtain ⟨w2, hw2⟩ : ∃ w2, w2 = wd := ⟨_, rfl⟩
      subst hw2
      have hbdw2 : bd < w2.heap.size := by omega
      clear hBe c0 c1 c2 e1 e2 hO hBw hS
      go_wp2_with fail
      refine wp_region_be [0, 1, 2, 3, 4, 5, 6, 7, 8, 9, 10, 11, 12, 13, 16, 14, 15] 17 w2.heap.size w2 (by kernel_rfl) (by kernel_rfl) (by kernel_rfl) (fun _ _ _ _ _ h => h) (Below.refl _ _) (fun wd hBe => ?_)
      repeat (first | (apply ord_tk rfl (by rfl) (by rfl) (by rfl); (focus (intro wx hSw; have s0 := (hSw.cell (p := ⟨bd, od + i, none⟩) hbdw2).trans f1; have s1 := (hSw.cell (p := ⟨bd, od + j, none⟩) hbdw2).trans f2; go_simp; (try with_reducible rfl))); (try simp only [Act.put, List.setIfInBounds_toArray, List.set_cons_zero, List.set_cons_succ])) | (apply ord_skip rfl (by rfl) (by rfl) (fun _ => hBe); (try simp only [Act.put, List.setIfInBounds_toArray, List.set_cons_zero, List.set_cons_succ])))
      refine ord_do rfl (by rfl) (by rfl) (fun K hK => ?_)
      go_simp
      obtain ⟨wa, H, hHe, hwa, hBa, hsub, bH, hHB⟩ := be_alloc hBe 49 #[.int .i64 di, .int .i64 q, .int .i64 j, .int .i64 q, .int .i64 dj, .int .i64 i]
      rw [hwa, hHe]
      clear hwa hHe hBe hsub
      have hBe := hBa
      clear hBa
      refine hK.out _ _ (fun _ => hBe) ?_
      (try simp only [Act.put, List.setIfInBounds_toArray, List.set_cons_zero, List.set_cons_succ])
      clear hK K
      repeat (first | (apply ord_tk rfl (by rfl) (by rfl) (by rfl); (focus (intro wx hSw; skip; go_simp; (try with_reducible rfl))); (try simp only [Act.put, List.setIfInBounds_toArray, List.set_cons_zero, List.set_cons_succ])) | (apply ord_skip rfl (by rfl) (by rfl) (fun _ => hBe); (try simp only [Act.put, List.setIfInBounds_toArray, List.set_cons_zero, List.set_cons_succ])))
      refine ord_nil ?_
      have hOa := hOd.below hBe
      have hBw3 := hBw2.trans (hBe.mono hBw2.size)
      clear hOd hBe f1 f2 hBw2
      obtain ⟨er, her⟩ : ∃ er : Nat → T3, er = fun r => if r = 0 then (di, q, j) else (q, dj, i) := ⟨_, rfl⟩
      obtain ⟨lr, hlr⟩ : ∃ lr : Nat → List T3, lr = fun r => if r = 0 then L else if r = 1 then adT L (di, q, j) else adT (adT L (di, q, j)) (q, dj, i) := ⟨_, rfl⟩
      have hst : ∀ r, r < 2 → lr (r + 1) = adT (lr r) (er r) := fun r hr => by
        have h : r = 0 ∨ r = 1 := by omega
        subst hlr; subst her
        rcases h with rfl | rfl <;> rfl
      have hem : ∀ r, er r ∈ trs3 := fun r => by subst her; simp only; split; exact hm1; exact hm2
      have had : ∀ (l : List T3) x, (∀ y ∈ l, y ∈ trs3) → x ∈ trs3 → ∀ y ∈ adT l x, y ∈ trs3 := fun l x h1 h2 y hy => by
        unfold adT at hy
        split at hy
        · exact h1 y hy
        · rcases List.mem_append.1 hy with hy | hy
          · exact h1 y hy
          · rw [List.mem_singleton.1 hy]; exact h2
      have hlm : ∀ r, ∀ x ∈ lr r, x ∈ trs3 := fun r => by
        subst hlr; simp only; split
        · exact hmem
        · split
          · exact had _ _ hmem hm1
          · exact had _ _ (had _ _ hmem hm1) hm2
      have hll : ∀ r, (lr r).length ≤ 1000 := fun r => by
        have k1 : ∀ (l : List T3) x, (adT l x).length ≤ l.length + 1 := fun l x => by unfold adT; split <;> simp
        have := HLN.out
        have := k1 L (di, q, j)
        have := k1 (adT L (di, q, j)) (q, dj, i)
        subst hlr; simp only; split
        · omega
        · split <;> omega
      have hnn : ∀ r, lr r ≠ [] := fun r => by
        have hL0 : L ≠ [] := by intro e; have := HLN.out; rw [e] at this; simp at this; omega
        have k1 : ∀ (l : List T3) x, l ≠ [] → adT l x ≠ [] := fun l x h => by unfold adT; split; exact h; simp
        subst hlr; simp only; split
        · exact hL0
        · split
          · exact k1 _ _ hL0
          · exact k1 _ _ (k1 _ _ hL0)
      have hce : ∀ (W : World), Blk W H 49 #[.int .i64 di, .int .i64 q, .int .i64 j, .int .i64 q, .int .i64 dj, .int .i64 i] → ∀ r, r < 2 → W.cell? ⟨H, r * 3, none⟩ = some (.int .i64 (er r).1) ∧ W.cell? ⟨H, r * 3 + 1, none⟩ = some (.int .i64 (er r).2.1) ∧ W.cell? ⟨H, r * 3 + 2, none⟩ = some (.int .i64 (er r).2.2) := fun W bH r hr => by
        have h : r = 0 ∨ r = 1 := by omega
        subst her
        rcases h with rfl | rfl
        · exact ⟨bH.cell 0, bH.cell 1, bH.cell 2⟩
        · exact ⟨bH.cell 3, bH.cell 4, bH.cell 5⟩
      have hHg : (Value.slice (some ⟨g, 0, none⟩) len cv).ownBlock ≠ some H := by simp [Value.ownBlock]; omega
      have hHl := bH.lt
      have hl2 : lr 2 = outK d t (k + 1) := by rw [HNX.out]; subst hlr; rfl
      have hl0 : lr 0 = L := by subst hlr; rfl
      have HE := hide her
      have HL2 := hide hl2
      have HCE := hide hce
      clear her hlr had hl2 hm1 hm2 hmem hce
      rw [← hl0] at hOa
      clear hl0 HNX HLN HE
      go_wp2_with fail
      go_loopw [5, 51] (fun o ii wr => ∃ (r : Nat) (v : Value), r ≤ 2 ∧ ii = .int .i64 r ∧ v = o ∧ OwT wr w.heap.size v (lr r) ∧ Below w.heap.size w wr ∧ Blk wr H 49 #[.int .i64 di, .int .i64 q, .int .i64 j, .int .i64 q, .int .i64 dj, .int .i64 i] ∧ v.ownBlock ≠ some H) (fun _ i _ => 2 - (intOf i).toNat)
      case atStart => exact ⟨0, _, by omega, rfl, rfl, hOa, hBw3, bH, hHg⟩
      case round =>
        clear hOa bH hHg
        obtain ⟨r, v, hr, rfl, rfl, hO, hBr, bH, hvH⟩ := hrel
        by_cases hlr : r < 2
        · obtain ⟨d0, d1, d2⟩ := HCE.out wr bH r hlr
          have hx := hem r
          have hlx := hll r
          have hmx := hlm r
          have hsx := hst r hlr
          obtain ⟨⟨x, y, z⟩, hxe⟩ : ∃ x, er r = x := ⟨_, rfl⟩
          rw [hxe] at d0 d1 d2 hx hsx
          simp only at d0 d1 d2
          have HSX := hide hsx
          clear hxe hsx
          have hHl := bH.lt
          have hri : (r : Int) < 2 := by omega
          go_upto_region 9 with fail
          obtain ⟨w5, hw5⟩ : ∃ w5, wr.alloc (.cells #[.int .i64 x, .int .i64 y, .int .i64 z] 49) = w5 := ⟨_, rfl⟩
          have hb5 : Below wr.heap.size wr w5 := by rw [← hw5]; exact (by repeat (first | assumption | exact Below.refl _ _ | apply below_drewN | apply Below.drew | apply Below.alloc | apply Below.setCell | omega | (focus (simp; done)) | (focus (simp; omega))))
          have bX : Blk w5 wr.heap.size 49 #[.int .i64 x, .int .i64 y, .int .i64 z] := by rw [← hw5]; exact Blk.new _ _ _
          rw [hw5]
          clear hw5 d0 d1 d2
          have hO5 := hO.below hb5
          obtain ⟨gv, cw, rfl, hgv, hS5⟩ := hO5.sl (hnn r)
          obtain ⟨ln, hln⟩ : ∃ ln, (lr r).length = ln := ⟨_, rfl⟩
          have HLN2 := hide hln
          rw [hln] at hS5 hlx ⊢
          have hCo := hide (contains3_any w5 w5.heap.size gv ln cw (lr r) (x, y, z) hS5 (Nat.le_refl _) (by omega) hx hmx)
          unfold tv at hCo
          obtain ⟨cb, hcb⟩ : ∃ b, decide ((x, y, z) ∈ lr r) = b := ⟨_, rfl⟩
          rw [hcb] at hCo
          have HCB := hide hcb
          have x0 := bX.cell 0
          have x1 := bX.cell 1
          have x2 := bX.cell 2
          clear hcb hO hln hS5
          go_wp2_with fail
          clear x0 x1 x2
          refine hCo.out.mono ?_
          rintro e w6 ⟨rfl, hb6⟩
          have hO6 := hO5.below hb6
          have hBr6 := (hBr.trans (hb5.mono hBr.size)).trans (hb6.mono (by have := hBr.size; have := hb5.size; omega))
          have bX6 := bX.all hb6
          have hz6 := hBr6.size
          have bH6 := (bH.all hb5).all hb6
          clear hO5
          cases cb with
          | true =>
            have HS := hide (show lr (r + 1) = lr r by rw [HSX.out]; unfold adT; rw [if_pos (by simpa using HCB.out)])
            go_wp2_with fail
            go_roundw
            case rel => exact ⟨r + 1, _, by omega, by go_num, rfl, by rw [HS.out, ← HLN2.out]; exact HLN2.out ▸ hO6, hBr6, bH6, hvH⟩
            case measure => simp [intOf] <;> omega
          | false =>
            have HS := hide (show lr (r + 1) = lr r ++ [(x, y, z)] by rw [HSX.out]; unfold adT; rw [if_neg (by simpa using HCB.out)])
            rw [HLN2.out] at hO6
            have x0 := bX6.cell 0
            have x1 := bX6.cell 1
            have x2 := bX6.cell 2
            have hO7 := hO6.below ((Below.refl _ _).alloc (Nat.le_refl _) (.cells #[.int .i64 x, .int .i64 y, .int .i64 z] 49))
            go_wp2_with (at_builtin; go_loud (refine list_pushT _ rfl _ _ rfl w.heap.size _ (lr r) rfl hO7 (x, y, z) w6.heap.size rfl (Blk.new _ _ _) (by rw [HLN2.out]; omega) (by have := hBw3.size; simp; omega) (by simp) ?_); intro g8 c8 w8 hO8 hB8 hG8 hg8)
            have bH8 := (bH6.all ((Below.refl _ _).alloc (Nat.le_refl _) (.cells #[.int .i64 x, .int .i64 y, .int .i64 z] 49))).grown hG8 hvH
            have hv8 : (Value.slice (some ⟨g8, 0, none⟩) ((lr r).length + 1) c8).ownBlock ≠ some H := by
              intro e
              have e' : g8 = H := by simpa [Value.ownBlock] using e
              rcases hg8 with h | h
              · exact hvH (by rw [← e']; exact h)
              · have := bH6.lt; omega
            have hBr8 := (hBr6.trans ((Below.refl _ _).alloc hz6 (.cells #[.int .i64 x, .int .i64 y, .int .i64 z] 49))).trans hB8
            clear hO6 hO7
            go_roundw
            case rel => exact ⟨r + 1, _, by omega, by go_num, rfl, by rw [HS.out]; exact hO8, hBr8, bH8, hv8⟩
            case measure => simp [intOf] <;> omega
        · obtain rfl : r = 2 := by omega
          rw [HL2.out] at hO
          go_wp2_with fail
          go_roundw
          case rel => exact ⟨k + 1, _, by omega, by go_num, rfl, hO, hBr⟩
          case measure => simp [intOf] <;> omega
    · obtain rfl : k = K := by omega
      have hfin := hT.fin
      have hPo := hide (show MkT w (outK d t k) (.returned v) wr from ⟨v, rfl, hO, hBw⟩)
      obtain ⟨A9, c9, rfl⟩ : ∃ A c, v = .slice A k c := by
        have hne : outK d t k ≠ [] := by
          intro e
          rw [e] at hfin
          simp at hfin
          subst hfin
          cases e
        obtain ⟨g, c, e, _⟩ := hO.sl hne
        rw [hfin] at e
        exact ⟨_, c, e⟩
      clear hO hfin
      go_wp2_with fail
      go_ret
      exact hPo.out
end Go.Proofs.Yteobaodabjdcaaa
