
/- The walk of ringsWith: first the told numbers, then the orbits, then fill. -/
import Derived.Test.YteobaodabjdcaaaCP8
import Derived.Test.YteobaodabjdcaaaCG2
import Derived.Carry
namespace Go.Proofs.Yteobaodabjdcaaa
open Go Go.RowKit
set_option linter.unusedSimpArgs false
set_option linter.unusedVariables false
set_option maxRecDepth 100000
/-- What stands while orbits are gathered: s1 is the map's block, then the first list's, the ring's box, the orbits' box. -/
structure RwS (w : World) (n m X s1 u : Nat) (vT : Value) (f : F3) (os : List (List T3)) (sl : List T3) (W : World) : Prop where
  fr : Below w.heap.size w W
  s0 : w.heap.size + 2 ≤ s1
  sz : s1 + 4 ≤ W.heap.size
  bM : Blk W w.heap.size 2 #[.int .i64 m]
  bV : Blk W (w.heap.size + 1) 32 #[.func (.func 10) #[] #[.pointer (some ⟨X, 0, none⟩)]]
  tb : E3 W vT (cub n f) (fun b => w.heap.size + 2 ≤ b ∧ b < s1)
  bR : Blk W (s1 + 1 + 1) 31 #[vT]
  mp : ∃ M, Mp3 W s1 sl.length M ∧ Seen M sl
  bO : ∃ vO, vO ≠ .slice none 0 0 ∧ Blk W (s1 + 1 + 1 + 1) 47 #[vO] ∧ OwL ET 50 W vO os (fun b => b = s1 + 1 ∨ (s1 + 4 ≤ b ∧ b < u))
  hu : u ≤ W.heap.size
theorem Mp3.lt {w : World} {b n : Nat} {M : DataW Unit} (h : Mp3 w b n M) : b < w.heap.size := World.ownsMap.lt h
theorem Mp3.keep {w w' : World} {b n : Nat} {M : DataW Unit} (h : Mp3 w b n M) (hb : w'.heap[b]? = w.heap[b]?) : Mp3 w' b n M := by
  obtain ⟨es, clock, h1, r⟩ := h
  exact ⟨es, clock, hb.trans h1, r⟩
theorem RwS.below {w : World} {n m X s1 u : Nat} {vT : Value} {f : F3} {os : List (List T3)} {sl : List T3} {W W' : World} (h : RwS w n m X s1 u vT f os sl W) (hb : Below W.heap.size W W') : RwS w n m X s1 u vT f os sl W' := by
  obtain ⟨M, hM, hS⟩ := h.mp
  obtain ⟨vO, hnO, hO, hL⟩ := h.bO
  have hz := h.sz
  have hs := hb.size
  exact ⟨h.fr.trans (hb.mono h.fr.size), h.s0, by omega, h.bM.all hb, h.bV.all hb, h.tb.below hb, h.bR.all hb, ⟨M, hM.keep (hb.block _ hM.lt), hS⟩, ⟨vO, hnO, hO.all hb, OwL.bel kpT hL hb⟩, Nat.le_trans h.hu hs⟩
theorem RwS.map {w : World} {n m X s1 u : Nat} {vT : Value} {f : F3} {os : List (List T3)} {sl : List T3} {W W' : World} {t : T3} {M : DataW Unit} (h : RwS w n m X s1 u vT f os sl W) (hM : Mp3 W' s1 (sl.length + 1) M) (hS : Seen M (t :: sl)) (hg : W.grownBy W' (some s1)) : RwS w n m X s1 u vT f os (t :: sl) W' := by
  have hW : Wr W W' (fun b => b = s1) := Wr.of_grown hg (fun b e => by injection e with e; exact e.symm)
  obtain ⟨vO, hnO, hO, hL⟩ := h.bO
  have hz := h.sz
  have h0 := h.s0
  have hs := hW.size
  exact ⟨h.fr.trans (hW.below (fun b hb => by omega) (by have := h.fr.size; omega)), h.s0, by omega, hW.blk h.bM (by omega), hW.blk h.bV (by omega), kp3 _ _ _ _ _ h.tb (fun b hb => hW.block b (h.tb.bd b hb) (by omega)) hs, hW.blk h.bR (by omega), ⟨M, hM, hS⟩, ⟨vO, hnO, hW.blk hO (by omega), kpL kpT _ _ _ _ _ hL (fun b hb => hW.block b (hL.bd b hb) (by omega)) hs⟩, Nat.le_trans h.hu hs⟩
theorem OwT.wr {w w' : World} {B : Nat} {v : Value} {l : List T3} {fp : Nat → Prop} (h : OwT w B v l) (hw : Wr w w' fp) (hn : ∀ b, v.ownBlock = some b → ¬ fp b) : OwT w' B v l := by
  obtain ⟨h1, h2⟩ := h
  refine ⟨h1, ?_⟩
  rcases h2 with h2 | ⟨g, cap, cur, rfl, hg, hh, h3⟩
  · exact .inl h2
  · have hl : g < w.heap.size := by
      rcases Nat.lt_or_ge g w.heap.size with h | h
      · exact h
      · rw [Array.getElem?_eq_none h] at hh; cases hh
    exact .inr ⟨g, cap, cur, rfl, hg, (hw.block g hl (hn g rfl)).trans hh, h3⟩
theorem RwS.push {w : World} {n m X s1 u : Nat} {vT : Value} {f : F3} {os : List (List T3)} {sl sl' : List T3} {W w1 w' : World} {o : List T3} {Av : Option Addr} {cv g6 k g cap : Nat} (h : RwS w n m X s1 u vT f os sl W) (hb : Below W.heap.size W w1) (hz : w1.heap.size = W.heap.size + 1) (hbx : Blk W (s1 + 1 + 1 + 1) 47 #[.slice Av k cv])
    (hown : ∀ b, (Value.slice Av k cv).ownBlock = some b → b = s1 + 1 ∨ (s1 + 4 ≤ b ∧ b < u)) (hg6 : s1 + 4 ≤ g6 ∧ g6 < W.heap.size)
    (hL : OwL ET 50 w' (.slice (some ⟨g, 0, none⟩) (k + 1) cap) (os ++ [o]) (fun b => (b = s1 + 1 ∨ (s1 + 4 ≤ b ∧ b < u)) ∨ b = g6 ∨ b = g)) (hg : w1.grownBy w' (Value.slice Av k cv).ownBlock) (hgg : (Value.slice Av k cv).ownBlock = some g ∨ g = W.heap.size + 1) (hgl : g < w'.heap.size) (hsl : sl = sl') :
    RwS w n m X s1 w'.heap.size vT f (os ++ [o]) sl' (w'.setCell ⟨s1 + 1 + 1 + 1, 0, none⟩ (.slice (some ⟨g, 0, none⟩) (k + 1) cap)) := by
  subst hsl
  have hW1 : Wr W w' (fun b => b = s1 + 1 ∨ (s1 + 4 ≤ b ∧ b < u)) := (Wr.of_below hb).trans ⟨hg.os, hg.tape, hg.output, hg.size, fun b hbl hn => hg.block b hbl (fun e => hn (hown b e.symm))⟩
  have hW : Wr W (w'.setCell ⟨s1 + 1 + 1 + 1, 0, none⟩ (.slice (some ⟨g, 0, none⟩) (k + 1) cap)) (fun b => b = s1 + 1 ∨ s1 + 3 ≤ b) :=
    (hW1.mono (fun b hb => by rcases hb with hb | hb; exact .inl hb; exact .inr (by omega))).trans ⟨rfl, rfl, rfl, by simp [World.setCell], fun b' _ hn => Below.heap_setCell _ _ _ _ (fun e => hn (.inr (by have e' : b' = s1 + 1 + 1 + 1 := e; omega)))⟩
  have hs0 := h.s0
  have hsz := h.sz
  have hu := h.hu
  have hz1 := hW1.size
  obtain ⟨M, hM, hSe⟩ := h.mp
  have hs : (w'.setCell ⟨s1 + 1 + 1 + 1, 0, none⟩ (.slice (some ⟨g, 0, none⟩) (k + 1) cap)).heap.size = w'.heap.size := by simp [World.setCell]
  refine ⟨h.fr.trans (hW.below (fun b hb => by omega) (by have := h.fr.size; omega)), h.s0, by omega, hW.blk h.bM (by omega), hW.blk h.bV (by omega), kp3 _ _ _ _ _ h.tb (fun b hb => hW.block b (h.tb.bd b hb) (by omega)) hW.size, hW.blk h.bR (by omega), ⟨M, hM.keep (hW.block _ hM.lt (by omega)), hSe⟩, ⟨_, by simp, (hW1.blk hbx (by omega)).store 0 _, ?_⟩, by omega⟩
  have hg2 : g = s1 + 1 ∨ s1 + 4 ≤ g := by
    rcases hgg with h | h
    · rcases hown g h with h | h <;> omega
    · omega
  have hL2 : OwL ET 50 w' (.slice (some ⟨g, 0, none⟩) (k + 1) cap) (os ++ [o]) (fun b => b = s1 + 1 ∨ (s1 + 4 ≤ b ∧ b < w'.heap.size)) := OwL.mono hL (fun b hb => by omega) (fun b hb => by omega)
  exact kpL kpT _ _ _ _ _ hL2 (fun b hb => Below.heap_setCell _ _ _ _ (fun e => by have e' : b = s1 + 1 + 1 + 1 := e; omega)) (by omega)
theorem RwS.base {w : World} {n m X s1 u : Nat} {vT : Value} {d : Nat → Nat} {W : World} (h : RwS w n m X s1 u vT (bT d n) [] [] W) (hz : d 0 = 0) (ht : ∀ i, i < n → d (d i) = i) : RwS w n m X s1 u vT (baseT d) [] [] W := by
  have hE := h.tb
  rw [bT_all hz ht] at hE
  exact ⟨h.fr, h.s0, h.sz, h.bM, h.bV, hE, h.bR, h.mp, h.bO, h.hu⟩
set_option maxHeartbeats 16000000 in
theorem ringsWith_any (w : World) (B : Nat) (A : Option Addr) (n c m X cnt : Nat) (dl : List Int) (d : Nat → Nat) (os : List (List T3)) (h : Sl w B A n c dl) (hB : B ≤ w.heap.size) (h1 : 1 ≤ n) (h3 : n ≤ 3) (hm : m ≤ 4) (hd : ∀ i, i < n → gi dl i = (d i : Int)) (hD : Du3 n d os) (hX : Blk w X 2 #[.int .i64 cnt]) (hcnt : cnt + (m + 1) ^ os.length ≤ 1000000) :
    Calls Try.prog 15 #[.slice A n c, .int .i64 m, .func (.func 10) #[] #[.pointer (some ⟨X, 0, none⟩)]] w (fun e w' => e = .returned (.tuple #[]) ∧ Blk w' X 2 #[.int .i64 (cnt + fillC n m os (baseT d) : Nat)] ∧ Wr w w' (fun b => b = X)) := by
  have hb1 : Below w.heap.size w ((w.alloc (.cells #[.int .i64 m] 2)).alloc (.cells #[.func (.func 10) #[] #[.pointer (some ⟨X, 0, none⟩)]] 32)) := (by repeat (first | assumption | exact Below.refl _ _ | apply below_drewN | apply Below.drew | apply Below.alloc | apply Below.setCell | omega | (focus (simp; done)) | (focus (simp; omega))))
  obtain ⟨W1, hW1⟩ : ∃ W, (w.alloc (.cells #[.int .i64 m] 2)).alloc (.cells #[.func (.func 10) #[] #[.pointer (some ⟨X, 0, none⟩)]] 32) = W := ⟨_, rfl⟩
  have hz1 : W1.heap.size = w.heap.size + 2 := by rw [← hW1]; simp
  have bM1 : Blk W1 w.heap.size 2 #[.int .i64 m] := by rw [← hW1]; exact (Blk.new _ _ _).alloc _
  have bV1 : Blk W1 (w.heap.size + 1) 32 #[.func (.func 10) #[] #[.pointer (some ⟨X, 0, none⟩)]] := by rw [← hW1]; exact Blk.new' _ _ _ _ (by simp)
  have hEm := hide (emptyCube_any W1 n (by omega))
  rw [hW1] at hb1
  go_enter Try.func15, Try.ntmps15
  go_wp2_with fail
  clear hW1
  refine hEm.out.mono ?_
  rintro e w2 ⟨vT, rfl, hE2, hb2⟩
  have hs2 := hb2.size
  have hmm := @run_makeMap Try.prog
  obtain ⟨b5, _, _, c5, _, _, rfl, _⟩ := E3.put hE2 (show 0 < n by omega) (show 0 < n by omega) (show 0 < n by omega) (show i64ok 0 from ⟨by omega, by omega⟩)
  obtain ⟨s1, hs1⟩ : ∃ s1, w2.heap.size = s1 := ⟨_, rfl⟩
  obtain ⟨W3, hW3⟩ : ∃ W, (((w2.alloc (.map #[] 0)).alloc (.cells #[] 50)).alloc (.cells #[.slice none 0 0] 31)).alloc (.cells #[.slice none 0 0] 47) = W := ⟨_, rfl⟩
  have hB3 : Below w2.heap.size w2 W3 := by rw [← hW3]; exact (by repeat (first | assumption | exact Below.refl _ _ | apply below_drewN | apply Below.drew | apply Below.alloc | apply Below.setCell | omega | (focus (simp; done)) | (focus (simp; omega))))
  have hz3 : W3.heap.size = s1 + 4 := by rw [← hW3]; simp; omega
  have mp3 : Mp3 W3 s1 0 (.map []) := by rw [← hW3, ← hs1]; exact World.ownsMap.alloc (World.ownsMap.alloc (World.ownsMap.alloc (World.ownsMap_made _ _ _ _) _) _) _
  have bG3 : Blk W3 (s1 + 1) 50 #[] := by rw [← hW3]; exact ((Blk.new' _ _ _ _ (by simp; omega)).alloc _).alloc _
  have bR3 : Blk W3 (s1 + 1 + 1) 31 #[.slice none 0 0] := by rw [← hW3]; exact (Blk.new' _ _ _ _ (by simp; omega)).alloc _
  have bO3 : Blk W3 (s1 + 1 + 1 + 1) 47 #[.slice none 0 0] := by rw [← hW3]; exact Blk.new' _ _ _ _ (by simp; omega)
  have r0 := bR3.cell 0
  have r1 := bR3.frozen 0
  have o3 := bO3.far (p := ⟨s1 + 1 + 1, 0, none⟩) (by show s1 + 1 + 1 + 1 ≠ s1 + 1 + 1; omega) (.slice (some ⟨b5, 0, none⟩) n c5)
  have o0 := o3.cell 0
  have o1 := o3.frozen 0
  go_wp2_with fail
  have hW34 : Wr W3 ((W3.setCell ⟨s1 + 1 + 1, 0, none⟩ (.slice (some ⟨b5, 0, none⟩) n c5)).setCell ⟨s1 + 1 + 1 + 1, 0, none⟩ (.slice (some ⟨s1 + 1, 0, none⟩) 0 0)) (fun b => b = s1 + 1 + 1 ∨ b = s1 + 1 + 1 + 1) :=
    ⟨rfl, rfl, rfl, by simp [World.setCell], fun b' _ hn => (Below.heap_setCell _ ⟨s1 + 1 + 1 + 1, 0, none⟩ _ b' (fun e => hn (.inr e))).trans (Below.heap_setCell _ ⟨s1 + 1 + 1, 0, none⟩ _ b' (fun e => hn (.inl e)))⟩
  have bR4 := (bR3.store 0 (.slice (some ⟨b5, 0, none⟩) n c5)).far (p := ⟨s1 + 1 + 1 + 1, 0, none⟩) (by show s1 + 1 + 1 ≠ s1 + 1 + 1 + 1; omega) (.slice (some ⟨s1 + 1, 0, none⟩) 0 0)
  have bO4 := o3.store 0 (.slice (some ⟨s1 + 1, 0, none⟩) 0 0)
  obtain ⟨W4, hW4⟩ : ∃ W, (W3.setCell ⟨s1 + 1 + 1, 0, none⟩ (.slice (some ⟨b5, 0, none⟩) n c5)).setCell ⟨s1 + 1 + 1 + 1, 0, none⟩ (.slice (some ⟨s1 + 1, 0, none⟩) 0 0) = W := ⟨_, rfl⟩
  rw [hW4] at hW34 bR4 bO4 ⊢
  clear hW4 r0 r1 o0 o1 o3 hW3 hmm
  have hB24 : Below w2.heap.size w2 W4 := hB3.trans (hW34.below (fun b hb => by omega) (by omega))
  have hz4 := hW34.size
  have hE4 : E3 W4 (.slice (some ⟨b5, 0, none⟩) n c5) (cub n (bT d 0)) (fun b => w.heap.size + 2 ≤ b ∧ b < s1) := by
    rw [bT_zero]
    exact OwL.mono (E3.below hE2 hB24) (fun b hb => ⟨by omega, by omega⟩) (fun b hb => by omega)
  have hL4 : OwL ET 50 W4 (.slice (some ⟨s1 + 1, 0, none⟩) 0 0) [] (fun b => b = s1 + 1 ∨ (s1 + 4 ≤ b ∧ b < s1 + 4)) := by
    have hO : OwV W4 0 50 (.slice (some ⟨s1 + 1, 0, none⟩) 0 0) [] := by
      have hb := hW34.blk bG3 (by omega)
      exact ⟨rfl, .inr ⟨s1 + 1, 0, #[], rfl, Nat.zero_le _, hb, Nat.le_refl _, by unfold maxLen; omega, rfl, rfl⟩⟩
    exact ⟨⟨[], fun _ _ => False, hO, rfl, fun k u x h => by simp at h, fun _ _ _ h => h.elim, fun _ _ h => h.elim⟩, fun b hb => by simp [Value.ownBlock] at hb; exact .inl hb.symm, fun b hb => by omega⟩
  have hbw4 := (hb1.trans (hb2.mono (by omega))).trans (hB24.mono (by omega))
  have hR0 : RwS w n m X s1 (s1 + 4) (.slice (some ⟨b5, 0, none⟩) n c5) (bT d 0) [] [] W4 := ⟨hbw4, by omega, by omega, (bM1.all hb2).all hB24, (bV1.all hb2).all hB24, hE4, bR4, ⟨_, mp3.keep (hW34.block _ (by omega) (by omega)), Seen.nil⟩, ⟨_, by simp, bO4, hL4⟩, by omega⟩
  clear hL4 hE4 hB24 bR4 bO4 hW34 bR3 bO3 bG3 mp3 hB3 hE2 hbw4 bM1 bV1 hb1 hb2 hEm
  have hcap := h.cap
  have hl := h.len
  obtain ⟨bd, od, rfl, hbd, hdc⟩ := h.at_ (by omega)
  have hdc' := hide (fun i (hi : i < n) => (hdc i hi).trans (by rw [hd i hi]))
  have hdd := hide hd
  clear hdc hd
  go_loopw [26] (fun i wr => ∃ k : Nat, k ≤ n ∧ i = .int .i64 k ∧ RwS w n m X s1 (s1 + 4) (.slice (some ⟨b5, 0, none⟩) n c5) (bT d k) [] [] wr) (fun i _ => n - (intOf i).toNat)
  case atStart => exact ⟨0, by omega, rfl, hR0⟩
  case round =>
    clear hR0
    obtain ⟨k, hk, rfl, hR⟩ := hrel
    by_cases hlt : k < n
    · have hn0 : 0 < n := by omega
      have hdk := hD.lt k hlt
      have h1i : i64ok 1 := ⟨by omega, by omega⟩
      obtain ⟨g, g1, g2, cc, c1, c2, e, a0, a1, _, _, _, _⟩ := hR.tb.put hn0 hlt hlt h1i
      obtain ⟨rfl, rfl⟩ : b5 = g ∧ c5 = cc := by cases e; exact ⟨rfl, rfl⟩
      obtain ⟨g, h1', h2', cc, d1, d2, e, b0, b1, _, _, _, _⟩ := hR.tb.put hlt hn0 hlt h1i
      obtain ⟨rfl, rfl⟩ : b5 = g ∧ c5 = cc := by cases e; exact ⟨rfl, rfl⟩
      obtain ⟨g, h1'', e2', cc, d1', e2, e, q0, q1, _, _, _, _⟩ := hR.tb.put hlt hdk hn0 h1i
      obtain ⟨rfl, rfl⟩ : b5 = g ∧ c5 = cc := by cases e; exact ⟨rfl, rfl⟩
      rw [b0] at q0
      obtain ⟨rfl, rfl⟩ : h1' = h1'' ∧ d1 = d1' := by cases q0; exact ⟨rfl, rfl⟩
      have r0 := hR.bR.cell 0
      have z0 := (hR.fr.cell (p := ⟨bd, od + k, none⟩) (by show bd < _; omega)).trans (hdc'.out k hlt)
      obtain ⟨x, hx⟩ : ∃ x, d k = x := ⟨_, rfl⟩
      have HX := hide hx
      rw [hx] at z0 q1 hdk
      clear hx q0
      go_wp2_with fail
      obtain ⟨wk, hwk⟩ : ∃ wk, wk = wr := ⟨_, rfl⟩
      subst hwk
      let S : World → Prop := fun wd => wd.cell? ⟨s1 + 1 + 1, 0, none⟩ = some (.slice (some ⟨b5, 0, none⟩) n c5) ∧ wd.cell? ⟨b5, 0, none⟩ = some (.slice (some ⟨g1, 0, none⟩) n c1) ∧ wd.cell? ⟨g1, k, none⟩ = some (.slice (some ⟨g2, 0, none⟩) n c2) ∧ wd.cell? ⟨b5, k, none⟩ = some (.slice (some ⟨h1', 0, none⟩) n d1) ∧ wd.cell? ⟨h1', 0, none⟩ = some (.slice (some ⟨h2', 0, none⟩) n d2) ∧ wd.cell? ⟨h1', x, none⟩ = some (.slice (some ⟨e2', 0, none⟩) n e2) ∧ wd.cell? ⟨bd, od + k, none⟩ = some (.int .i64 x)
      have hS0 : S wk.drew := ⟨r0, a0, a1, b0, b1, q1, z0⟩
      refine wp_region_ord [0, 1, 2, 3, 4, 5, 6, 7, 8, 9, 10, 11, 12, 13, 14, 15, 16, 17, 18, 19, 20, 21, 22, 23, 24, 25, 26, 27, 28, 29, 30, 31, 32] 31 S (by kernel_rfl) (by kernel_rfl) (by kernel_rfl) (fun _ _ _ _ _ h => h) hS0 ?_
      repeat (first | (apply ord_tk rfl (by rfl) (by rfl) (by rfl); (focus (intro wx hSw; obtain ⟨s0, s1, s2, s3, s4, s5, s6⟩ := hSw; go_simp; (try with_reducible rfl))); (try simp only [Act.put, List.setIfInBounds_toArray, List.set_cons_zero, List.set_cons_succ])) | (apply ord_skip rfl (by rfl) (by rfl) (fun _ => hBe); (try simp only [Act.put, List.setIfInBounds_toArray, List.set_cons_zero, List.set_cons_succ])))
      obtain ⟨V0, hV0⟩ : ∃ V, V = wk.drew := ⟨_, rfl⟩
      rw [← hV0] at hS0 ⊢
      have hRd := hR.below (W' := V0) (by rw [hV0]; exact (Below.refl _ _).drew)
      clear hV0 hR a0 a1 b0 b1 q1 z0 r0
      obtain ⟨s0, s1', s2, s3, s4, s5, s6⟩ := hS0
      have hgfar : ∀ {W : World} {g z : Nat} {u : Value} {p : Addr} {v : Int}, (w.heap.size + 2 ≤ g ∧ g < s1) → p.block < w.heap.size → W.cell? p = some (.int .i64 v) → (W.setCell ⟨g, z, none⟩ u).cell? p = some (.int .i64 v) := fun {W g z u p v} hg hp hc => (World.cell?_setCell_other W ⟨g, z, none⟩ p u (fun e => by rw [← e] at hp; simp only at hp; omega)).trans hc
      obtain ⟨⟨u1, i1⟩, f1, p1, hE1⟩ := hRd.tb.put_at hn0 hlt hlt h1i s1' s2
      obtain ⟨V1, hV1⟩ : ∃ V, V0.setCell ⟨g2, k, none⟩ (.int .i64 1) = V := ⟨_, rfl⟩
      have hW1 : Wr V0 V1 (fun b => w.heap.size + 2 ≤ b ∧ b < s1) := by rw [← hV1]; exact ⟨rfl, rfl, rfl, by simp [World.setCell], fun b' _ hn => Below.heap_setCell _ _ _ _ (fun e => hn (by have e' : b' = g2 := e; rw [e']; exact p1))⟩
      have hS1 : S V1 := by
        rw [← hV1]
        exact ⟨cell_far i1 s0, cell_far i1 s1', cell_far i1 s2, cell_far i1 s3, cell_far i1 s4, cell_far i1 s5, hgfar p1 (by show bd < _; omega) s6⟩
      rw [hV1] at hE1
      have hS1' := hS1
      obtain ⟨t0, t1, t2, t3, t4, t5, t6⟩ := hS1'
      obtain ⟨⟨u2, i2⟩, f2, p2, hE2⟩ := hE1.put_at hlt hn0 hlt h1i t3 t4
      obtain ⟨V2, hV2⟩ : ∃ V, V1.setCell ⟨h2', k, none⟩ (.int .i64 1) = V := ⟨_, rfl⟩
      have hW2 : Wr V0 V2 (fun b => w.heap.size + 2 ≤ b ∧ b < s1) := by rw [← hV2]; exact hW1.trans ⟨rfl, rfl, rfl, by simp [World.setCell], fun b' _ hn => Below.heap_setCell _ _ _ _ (fun e => hn (by have e' : b' = h2' := e; rw [e']; exact p2))⟩
      have hS2 : S V2 := by
        rw [← hV2]
        exact ⟨cell_far i2 t0, cell_far i2 t1, cell_far i2 t2, cell_far i2 t3, cell_far i2 t4, cell_far i2 t5, hgfar p2 (by show bd < _; omega) t6⟩
      rw [hV2] at hE2
      have hS2' := hS2
      obtain ⟨v0, v1, v2, v3, v4, v5, v6⟩ := hS2'
      obtain ⟨⟨u3, i3⟩, f3, p3, hE3⟩ := hE2.put_at hlt hdk hn0 h1i v3 v5
      have hW3 : Wr V0 (V2.setCell ⟨e2', 0, none⟩ (.int .i64 1)) (fun b => w.heap.size + 2 ≤ b ∧ b < s1) := hW2.trans ⟨rfl, rfl, rfl, by simp [World.setCell], fun b' _ hn => Below.heap_setCell _ _ _ _ (fun e => hn (by have e' : b' = e2' := e; rw [e']; exact p3))⟩
      rw [← HX.out, bT_step] at hE3
      have hRn : RwS w n m X s1 (s1 + 4) (.slice (some ⟨b5, 0, none⟩) n c5) (bT d (k + 1)) [] [] (V2.setCell ⟨e2', 0, none⟩ (.int .i64 1)) := by
        have hz := hW3.size
        obtain ⟨M, hM, hSe⟩ := hRd.mp
        obtain ⟨vO, hnO, hO, hL⟩ := hRd.bO
        have hsz := hRd.sz
        have hs0 := hRd.s0
        exact ⟨hRd.fr.trans (hW3.below (fun b hb => by omega) (by have := hRd.fr.size; omega)), hRd.s0, by omega, hW3.blk hRd.bM (by omega), hW3.blk hRd.bV (by omega), hE3, hW3.blk hRd.bR (by omega), ⟨M, hM.keep (hW3.block _ hM.lt (by omega)), hSe⟩, ⟨vO, hnO, hW3.blk hO (by omega), kpL kpT _ _ _ _ _ hL (fun b hb => hW3.block b (hL.bd b hb) (by omega)) hz⟩, by have := hRd.hu; omega⟩
      clear hE1 hE2 hE3 hW1 hW2 hW3 hRd
      refine ord_do rfl (by rfl) (by rfl) (fun K hK => ?_)
      go_simp
      refine hK.out _ _ (fun _ => hS1) ?_
      (try simp only [Act.put, List.setIfInBounds_toArray, List.set_cons_zero, List.set_cons_succ])
      clear hK K
      clear hV1 i1 f1
      repeat (first | (apply ord_tk rfl (by rfl) (by rfl) (by rfl); (focus (intro wx hSw; obtain ⟨s0, s1, s2, s3, s4, s5, s6⟩ := hSw; go_simp; (try with_reducible rfl))); (try simp only [Act.put, List.setIfInBounds_toArray, List.set_cons_zero, List.set_cons_succ])) | (apply ord_skip rfl (by rfl) (by rfl) (fun _ => hBe); (try simp only [Act.put, List.setIfInBounds_toArray, List.set_cons_zero, List.set_cons_succ])))
      refine ord_do rfl (by rfl) (by rfl) (fun K hK => ?_)
      go_simp
      refine hK.out _ _ (fun _ => hS2) ?_
      (try simp only [Act.put, List.setIfInBounds_toArray, List.set_cons_zero, List.set_cons_succ])
      clear hK K
      clear hV2 i2 f2
      refine ord_do rfl (by rfl) (by rfl) (fun K hK => ?_)
      go_simp
      refine hK.out _ _ (fun h => absurd h (by omega)) ?_
      (try simp only [Act.put, List.setIfInBounds_toArray, List.set_cons_zero, List.set_cons_succ])
      clear hK K
      refine ord_do rfl (by rfl) (by rfl) (fun K hK => ?_)
      go_simp
      refine hK.out _ _ (fun h => absurd h (by omega)) ?_
      (try simp only [Act.put, List.setIfInBounds_toArray, List.set_cons_zero, List.set_cons_succ])
      clear hK K
      refine ord_nil ?_
      clear hS1 hS2 i3 f3
      go_wp2_with fail
      go_roundw
      case rel => exact ⟨k + 1, by omega, by go_num, hRn⟩
      case measure => simp [intOf] <;> omega
    · obtain rfl : n = k := by omega
      have hRb := hR.base hD.z hD.tw
      clear hR
      go_wp2_with fail
      go_loopw [11] (fun i wr => ∃ a u : Nat, a ≤ n - 1 ∧ i = .int .i64 (a + 1 : Nat) ∧ RwS w n m X s1 u (.slice (some ⟨b5, 0, none⟩) n c5) (baseT d) (orbF d (P3 (n - 1) a 0 0)) (orbF d (P3 (n - 1) a 0 0)).flatten.reverse wr) (fun i _ => n - (intOf i).toNat)
      case atStart => exact ⟨0, s1 + 4, by omega, rfl, hRb⟩
      case round =>
        clear hRb
        obtain ⟨a, u, ha, rfl, hR⟩ := hrel
        by_cases hla : a < n - 1
        · have hai : (a : Int) + 1 < n := by omega
          go_wp2_with fail
          go_loopw [12] (fun i wr => ∃ b u : Nat, b ≤ n - 1 ∧ i = .int .i64 (b + 1 : Nat) ∧ RwS w n m X s1 u (.slice (some ⟨b5, 0, none⟩) n c5) (baseT d) (orbF d (P3 (n - 1) a b 0)) (orbF d (P3 (n - 1) a b 0)).flatten.reverse wr) (fun i _ => n - (intOf i).toNat)
          case atStart => exact ⟨0, u, by omega, rfl, hR⟩
          case round =>
            clear hR
            obtain ⟨b, u, hb, rfl, hR⟩ := hrel
            by_cases hlb : b < n - 1
            · have hbi : (b : Int) + 1 < n := by omega
              go_wp2_with fail
              go_loopw [13] (fun i wr => ∃ c u : Nat, c ≤ n - 1 ∧ i = .int .i64 (c + 1 : Nat) ∧ RwS w n m X s1 u (.slice (some ⟨b5, 0, none⟩) n c5) (baseT d) (orbF d (P3 (n - 1) a b c)) (orbF d (P3 (n - 1) a b c)).flatten.reverse wr) (fun i _ => n - (intOf i).toNat)
              case atStart => exact ⟨0, u, by omega, rfl, hR⟩
              case round =>
                clear hR
                obtain ⟨q, u, hq, rfl, hR⟩ := hrel
                by_cases hlq : q < n - 1
                · have hqi : (q : Int) + 1 < n := by omega
                  obtain ⟨ht3, hTr⟩ := hD.tr a b q hla hlb hlq
                  obtain ⟨hfl, hol⟩ := hD.fl a b q ha hb hq
                  have HS := hide (show orbF d (P3 (n - 1) a b (q + 1)) = if (a + 1, b + 1, q + 1) ∈ (orbF d (P3 (n - 1) a b q)).flatten then orbF d (P3 (n - 1) a b q) else orbF d (P3 (n - 1) a b q) ++ [orbit d (a + 1, b + 1, q + 1)] by rw [P3_k, orbF_snoc])
                  obtain ⟨os', hos⟩ : ∃ os', orbF d (P3 (n - 1) a b q) = os' := ⟨_, rfl⟩
                  rw [hos] at HS hR hfl hol
                  clear hos
                  obtain ⟨x, hx⟩ : ∃ x, a + 1 = x := ⟨_, rfl⟩
                  obtain ⟨y, hy⟩ : ∃ x, b + 1 = x := ⟨_, rfl⟩
                  obtain ⟨z, hz⟩ : ∃ x, q + 1 = x := ⟨_, rfl⟩
                  have hx' : (a : Int) + 1 = x := by omega
                  have hy' : (b : Int) + 1 = y := by omega
                  have hz' : (q : Int) + 1 = z := by omega
                  rw [hx, hy, hz] at HS ht3 hTr
                  have hxs : ((a + 1 : Nat) : Int) = x := by omega
                  have hys : ((b + 1 : Nat) : Int) = y := by omega
                  have hzs : ((q + 1 : Nat) : Int) = z := by omega
                  go_upto_region 18 with fail
                  obtain ⟨w5, hw5⟩ : ∃ w5, wr.alloc (.cells #[.int .i64 x, .int .i64 y, .int .i64 z] 49) = w5 := ⟨_, rfl⟩
                  have hb5 : Below wr.heap.size wr w5 := by rw [← hw5]; exact (by repeat (first | assumption | exact Below.refl _ _ | apply below_drewN | apply Below.drew | apply Below.alloc | apply Below.setCell | omega | (focus (simp; done)) | (focus (simp; omega))))
                  have bX : Blk w5 wr.heap.size 49 #[.int .i64 x, .int .i64 y, .int .i64 z] := by rw [← hw5]; exact Blk.new _ _ _
                  rw [hw5]
                  have hR5 := hR.below hb5
                  clear hw5 hR
                  obtain ⟨M, hM, hSe⟩ := hR5.mp
                  have hlook := hM.look hSe ht3
                  unfold tv at hlook
                  obtain ⟨bb, hbb⟩ : ∃ b, decide ((x, y, z) ∈ os'.flatten.reverse) = b := ⟨_, rfl⟩
                  rw [hbb] at hlook
                  have HBB := hide hbb
                  have x0 := bX.cell 0
                  have x1 := bX.cell 1
                  have x2 := bX.cell 2
                  clear hbb hM hSe
                  cases bb with
                  | true =>
                    have HSn := hide (show orbF d (P3 (n - 1) a b z) = os' by rw [HS.out, if_pos (by simpa using HBB.out)])
                    go_wp2_with fail
                    clear hlook x0 x1 x2
                    go_roundw
                    case rel => exact ⟨q + 1, u, by omega, by go_num, by rw [hz, HSn.out]; exact hR5⟩
                    case measure => simp [intOf] <;> omega
                  | false =>
                    have HSn := hide (show orbF d (P3 (n - 1) a b z) = os' ++ [orbit d (x, y, z)] by rw [HS.out, if_neg (by simpa using HBB.out)])
                    have hTu := hide (turned_any w5 B (some ⟨bd, od, none⟩) n c (Kt d (x, y, z)) dl d (x, y, z) (h.below (hR5.fr.mono hB)) (by have := hR5.fr.size; omega) h3 hdd.out hD.lt hTr)
                    unfold tv at hTu
                    obtain ⟨o, ho⟩ : ∃ o, outK d (x, y, z) (Kt d (x, y, z)) = o := ⟨_, rfl⟩
                    have hoe : orbit d (x, y, z) = o := ho
                    have hom := hTr.mem _ (Nat.le_refl _)
                    have hoL := hTr.ll _ (Nat.le_refl _)
                    have hon : o ≠ [] := by
                      rw [← ho]
                      have h1 := hTr.fin
                      cases hK : Kt d (x, y, z) with
                      | zero => simp [outK]
                      | succ K => intro e; rw [hK, e] at h1; simp at h1
                    rw [ho] at hTu hom hoL
                    rw [hoe] at HSn
                    clear ho hoe hTr
                    go_wp2_with fail
                    clear hlook x0 x1 x2
                    refine hTu.out.mono ?_
                    rintro e w6 ⟨v6, rfl, hO6, hb6⟩
                    have hR6 := hR5.below hb6
                    have hsz5 := hR5.sz
                    have hu5 := hR5.hu
                    obtain ⟨g6, c6, rfl, hg6, hS6⟩ := hO6.sl hon
                    clear hR5 hTu
                    go_wp2_with fail
                    have hg6' : s1 + 4 ≤ g6 := by have := hR6.sz; have := hS6.lt; have h5 := hsz5; omega
                    obtain ⟨ol, hol'⟩ : ∃ ol, o.length = ol := ⟨_, rfl⟩
                    have HOL := hide hol'
                    rw [hol'] at hO6 hoL hS6 ⊢
                    have hcap6 := hS6.cap
                    have hR60 : RwS w n m X s1 u (.slice (some ⟨b5, 0, none⟩) n c5) (baseT d) os' ((o.take 0).reverse ++ os'.flatten.reverse) w6 := hR6
                    clear hol' hS6 hR6
                    go_loopw [88] (fun i wx => ∃ r : Nat, r ≤ ol ∧ i = .int .i64 r ∧ RwS w n m X s1 u (.slice (some ⟨b5, 0, none⟩) n c5) (baseT d) os' ((o.take r).reverse ++ os'.flatten.reverse) wx ∧ OwT wx w5.heap.size (.slice (some ⟨g6, 0, none⟩) ol c6) o) (fun i _ => ol - (intOf i).toNat)
                    case atStart => exact ⟨0, by omega, rfl, hR60, hO6⟩
                    case round =>
                      clear hR60 hO6
                      obtain ⟨r, hr, rfl, hR, hO⟩ := hrel
                      by_cases hlr : r < ol
                      · obtain ⟨⟨x', y', z'⟩, hxe⟩ : ∃ t, o[r]? = some t := ⟨o[r]'(by rw [HOL.out]; exact hlr), List.getElem?_eq_getElem _⟩
                        obtain ⟨g', c', e', hg', hS⟩ := hO.sl hon
                        obtain ⟨rfl, rfl⟩ : g6 = g' ∧ c6 = c' := by cases e'; exact ⟨rfl, rfl⟩
                        clear e'
                        obtain ⟨y0, y1, y2⟩ := hS.at_ r _ hxe
                        simp only at y0 y1 y2
                        have hmx := hom _ (List.mem_of_getElem? hxe)
                        have HTk := hide (show (o.take (r + 1)).reverse ++ os'.flatten.reverse = (x', y', z') :: ((o.take r).reverse ++ os'.flatten.reverse) by rw [List.take_add_one, hxe]; simp)
                        have hgl := hS.lt
                        clear hxe hS
                        go_upto_region 23 with fail
                        obtain ⟨w7, hw7⟩ : ∃ w7, wr.alloc (.cells #[.int .i64 x', .int .i64 y', .int .i64 z'] 49) = w7 := ⟨_, rfl⟩
                        have hb7 : Below wr.heap.size wr w7 := by rw [← hw7]; exact (by repeat (first | assumption | exact Below.refl _ _ | apply below_drewN | apply Below.drew | apply Below.alloc | apply Below.setCell | omega | (focus (simp; done)) | (focus (simp; omega))))
                        have bX7 : Blk w7 wr.heap.size 49 #[.int .i64 x', .int .i64 y', .int .i64 z'] := by rw [← hw7]; exact Blk.new _ _ _
                        rw [hw7]
                        have hR7 := hR.below hb7
                        have hO7 := hO.below hb7
                        clear hw7 hR hO y0 y1 y2
                        obtain ⟨M, hM, hSe⟩ := hR7.mp
                        have hsl : ((o.take r).reverse ++ os'.flatten.reverse).length ≤ 1048576 := by
                          have := HOL.out
                          rw [List.length_append, List.length_reverse, List.length_reverse, List.length_take]; omega
                        obtain ⟨w8, M', hset, hM8, hS8, hg8⟩ := hM.set hSe hmx hsl
                        have hR8 := hR7.map hM8 hS8 hg8
                        rw [← HTk.out] at hR8
                        have hO8 : OwT w8 w5.heap.size (.slice (some ⟨g6, 0, none⟩) ol c6) o := hO7.wr (fp := fun b => b = s1) (Wr.of_grown hg8 (fun b e => by injection e with e; exact e.symm)) (fun b hb e => absurd (show g6 = b by simpa [Value.ownBlock] using hb) (by omega))
                        unfold tv at hset
                        have x0 := bX7.cell 0
                        have x1 := bX7.cell 1
                        have x2 := bX7.cell 2
                        clear hM hSe hR7 hO7 hM8 hS8 hg8 bX7
                        go_wp2_with fail
                        clear hset x0 x1 x2
                        go_roundw
                        case rel => exact ⟨r + 1, by omega, by go_num, hR8, hO8⟩
                        case measure => simp [intOf] <;> omega
                      · obtain rfl : r = ol := by omega
                        rw [List.take_of_length_le (by rw [HOL.out]; exact Nat.le_refl _)] at hR
                        obtain ⟨vO, hnO, bOx, hL⟩ := hR.bO
                        obtain ⟨Av, cv, rfl, _⟩ := OwL.rd (P := fun _ _ => True) hL fun _ _ _ _ => trivial
                        have hET : ET wr (.slice (some ⟨g6, 0, none⟩) r c6) o (fun b => b = g6) := ⟨⟨hO.1, by
                          rcases hO.2 with h2 | ⟨g, cap, cur, e1, e2, e3⟩
                          · exact .inl h2
                          · exact .inr ⟨g, cap, cur, e1, Nat.zero_le _, e3⟩⟩, hon, fun b hb => by simpa [Value.ownBlock, eq_comm] using hb, fun b hb => by
                          obtain ⟨g', c', e', _, hS⟩ := hO.sl hon
                          have := hS.lt
                          have e2 : g6 = g' := by cases e'; rfl
                          omega⟩
                        have hg6u : ¬ (g6 = s1 + 1 ∨ (s1 + 4 ≤ g6 ∧ g6 < u)) := by have := hu5; omega
                        have q0 := bOx.cell 0
                        have hol1 : os'.length ≤ 1048576 := by omega
                        obtain ⟨k, hk⟩ : ∃ k, os'.length = k := ⟨_, rfl⟩
                        have HK := hide hk
                        rw [hk] at hL bOx q0 hol1
                        clear hk
                        have hbw : Below wr.heap.size wr (wr.alloc (.cells #[.slice (some ⟨g6, 0, none⟩) r c6] 50)) := (by repeat (first | assumption | exact Below.refl _ _ | apply below_drewN | apply Below.drew | apply Below.alloc | apply Below.setCell | omega | (focus (simp; done)) | (focus (simp; omega))))
                        have hL9 := OwL.bel kpT hL hbw
                        have hE9 := kpT _ _ _ _ _ hET (fun b hb => hbw.block b (hET.bd b hb)) hbw.size
                        have hg6l := hET.bd g6 rfl
                        have p0 := (bOx.all hbw).cell 0
                        go_wp2_with (at_builtin; go_loud (refine list_pushF kpT 47 50 _ 24 Try.underlying47 trL_info (by omega) rfl _ rfl _ _ rfl _ _ _ rfl hL9 (.slice (some ⟨g6, 0, none⟩) r c6) o (fun b => b = g6) hE9 (fun b hb => by rw [hb]; simp; omega) (fun b hb => by rw [hb]; exact hg6u) rfl wr.heap.size _ rfl (Blk.new _ _ _) (by rw [HK.out]; exact hol1) (by simp) ?_); intro g cap w' hLn hgn hggn hgln; have bO2 := (Wr.trans (fp := fun b => b ≠ s1 + 1 + 1 + 1) (Wr.of_below hbw) ⟨hgn.os, hgn.tape, hgn.output, hgn.size, fun b hbl hn => hgn.block b hbl (fun e => by have := hL.fp_ b e.symm; omega)⟩).blk bOx (fun h => h rfl); have b0 := bO2.cell 0; have b1 := bO2.frozen 0)
                        have hRn := hR.push (sl' := (os' ++ [o]).flatten.reverse) hbw (by simp) bOx (fun b hb => hL.fp_ b hb) ⟨hg6', hg6l⟩ (by rw [← HK.out]; exact hLn) hgn hggn hgln (by simp)
                        clear hL9 hE9 hLn hR hL hET q0 p0 b0 b1 bO2 bOx hO
                        subst hx; subst hy; subst hz
                        go_roundw
                        case rel => exact ⟨q + 1, _, by omega, by go_num, by rw [HSn.out, HK.out]; exact hRn⟩
                        case measure => simp [intOf] <;> omega
                · have hqi : ¬ (q : Int) + 1 < n := by omega
                  obtain rfl : q = n - 1 := by omega
                  rw [P3_j] at hR
                  go_wp2_with fail
                  go_roundw
                  case rel => exact ⟨b + 1, u, by omega, by go_num, hR⟩
                  case measure => simp [intOf] <;> omega
            · have hbi : ¬ (b : Int) + 1 < n := by omega
              obtain rfl : b = n - 1 := by omega
              rw [P3_i] at hR
              go_wp2_with fail
              go_roundw
              case rel => exact ⟨a + 1, u, by omega, by go_num, hR⟩
              case measure => simp [intOf] <;> omega
        · have hai : ¬ (a : Int) + 1 < n := by omega
          obtain rfl : a = n - 1 := by omega
          rw [hD.all] at hR
          go_wp2_with fail
          obtain ⟨W5, hW5⟩ : ∃ W, wr.alloc (.cells #[.func (.func 23) #[] #[.pointer (some ⟨s1 + 1 + 1 + 1, 0, none⟩), .pointer (some ⟨s1 + 1 + 1, 0, none⟩), .pointer (some ⟨w.heap.size + 1, 0, none⟩), .pointer (some ⟨w.heap.size, 0, none⟩), .pointer (some ⟨wr.heap.size, 0, none⟩)]] 52) = W := ⟨_, rfl⟩
          have hb5 : Below wr.heap.size wr W5 := by rw [← hW5]; exact (by repeat (first | assumption | exact Below.refl _ _ | apply below_drewN | apply Below.drew | apply Below.alloc | apply Below.setCell | omega | (focus (simp; done)) | (focus (simp; omega))))
          have bF5 : Blk W5 wr.heap.size 52 #[.func (.func 23) #[] #[.pointer (some ⟨s1 + 1 + 1 + 1, 0, none⟩), .pointer (some ⟨s1 + 1 + 1, 0, none⟩), .pointer (some ⟨w.heap.size + 1, 0, none⟩), .pointer (some ⟨w.heap.size, 0, none⟩), .pointer (some ⟨wr.heap.size, 0, none⟩)]] := by rw [← hW5]; exact Blk.new _ _ _
          rw [hW5]
          clear hW5
          have hR5 := hR.below hb5
          have hsz5 := hR.sz
          have hs05 := hR.s0
          obtain ⟨vO, hnO, bOx, hL⟩ := hR5.bO
          obtain ⟨us, F, hU⟩ := hL.open_
          have hul := hU.len
          rcases hU.row.form with ⟨e, _⟩ | ⟨bo, co, rfl, _, hbo, hcap5, hcel⟩
          · exact absurd e hnO
          · rw [hul] at bOx hcap5
            have hboF := hL.fp_ bo rfl
            have hXw := hX.lt
            have hrows : ∀ k o, os[k]? = some o → ∃ b c, W5.cell? ⟨bo, k, none⟩ = some (.slice (some ⟨b, 0, none⟩) o.length c) ∧ SlT W5 W5.heap.size b o.length c o ∧ ¬ ((w.heap.size + 2 ≤ b ∧ b < s1) ∨ b = X) := fun k o ho => by
              have hkl := (List.getElem?_eq_some_iff.1 ho).1
              obtain ⟨uu, huu⟩ : ∃ uu, us[k]? = some uu := ⟨us[k]'(by omega), List.getElem?_eq_getElem _⟩
              have hE := hU.each k uu o huu ho
              obtain ⟨g, c', rfl, _, hS⟩ := hE.own.sl hE.ne
              have hgF := (hU.sub k g (hE.fp_ g rfl)).1
              exact ⟨g, c', hcel k _ huu, hS, by omega⟩
            let C : FiC := { W0 := W5, n := n, m := m, os := os, FP := fun b => w.heap.size + 2 ≤ b ∧ b < s1, aO := s1 + 1 + 1 + 1, aR := s1 + 1 + 1, aV := w.heap.size + 1, aM := w.heap.size, aF := wr.heap.size, X := X, bo := bo, co := co, vT := .slice (some ⟨b5, 0, none⟩) n c5 }
            have ok : FiOk C := { n1 := h1, n3 := h3, m4 := hm, bO := bOx, bR := hR5.bR, bV := hR5.bV, bM := hR5.bM, bF := bF5, nO := (by show ¬ ((w.heap.size + 2 ≤ s1 + 1 + 1 + 1 ∧ s1 + 1 + 1 + 1 < s1) ∨ s1 + 1 + 1 + 1 = X); omega), nR := (by show ¬ ((w.heap.size + 2 ≤ s1 + 1 + 1 ∧ s1 + 1 + 1 < s1) ∨ s1 + 1 + 1 = X); omega), nV := (by show ¬ ((w.heap.size + 2 ≤ w.heap.size + 1 ∧ w.heap.size + 1 < s1) ∨ w.heap.size + 1 = X); omega), nM := (by show ¬ ((w.heap.size + 2 ≤ w.heap.size ∧ w.heap.size < s1) ∨ w.heap.size = X); omega), nF := (by show ¬ ((w.heap.size + 2 ≤ wr.heap.size ∧ wr.heap.size < s1) ∨ wr.heap.size = X); omega), nX := (by show ¬ (w.heap.size + 2 ≤ X ∧ X < s1); omega), cap := hcap5, no := ⟨hbo, by show ¬ ((w.heap.size + 2 ≤ bo ∧ bo < s1) ∨ bo = X); omega⟩, rows := hrows, rng := hD.rng, many := hD.many }
            have hX5 := hX.below (hR5.fr) hXw
            have hI : FiI C (baseT d) cnt W5 := ⟨Wr.refl _ _, hR5.tb, hX5⟩
            have hFi := hide (fill_any ok os.length 0 W5 (baseT d) cnt (by show 0 + os.length = os.length; omega) hI (baseT_rng d) hcnt)
            have hfr5 := hR5.fr
            clear hI ok hrows hU hL hcel hR5 hR bOx bF5
            refine hFi.out.mono ?_
            rintro e w9 ⟨rfl, f', hI9, _, _⟩
            have hzf := hfr5.size
            have hWf : Wr w w9 (fun b => b = X) := ⟨hI9.wr.os.trans hfr5.os, hI9.wr.tape.trans hfr5.tape, hI9.wr.output.trans hfr5.output, Nat.le_trans hzf hI9.wr.size, fun b hb hn => (hI9.wr.block b (by show b < W5.heap.size; omega) (by show ¬ ((w.heap.size + 2 ≤ b ∧ b < s1) ∨ b = X); omega)).trans (hfr5.block b hb)⟩
            have hXn := hI9.bX
            go_wp2_with fail
            refine bodyPost_end (v := .tuple #[]) (by simp [results, Try.results15, go_sem]) rfl ?_
            exact ⟨rfl, hXn, hWf⟩
end Go.Proofs.Yteobaodabjdcaaa
