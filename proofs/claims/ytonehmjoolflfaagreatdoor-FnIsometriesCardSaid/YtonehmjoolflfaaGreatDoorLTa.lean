
/- The orders of a metric turned, plain. What l10Two keeps while it makes the second metric. The walk of l10Two: two metrics are drawn, often isometric ones. DrawIsometryOf: two metrics are drawn. -/
import Derived.Test.YtonehmjoolflfaaGreatDoorSa
import Derived.Test.YtonehmjoolflfaaGreatDoorLa
import Derived.Test.YtonehmjoolflfaaGreatDoorDva
import Derived.Test.YtonehmjoolflfaaGreatDoorEa
import Derived.Test.YtonehmjoolflfaaGreatDoorAP
import Derived.Test.YtonehmjoolflfaaGreatDoorC2
import Derived.Deep.DeepCutAuto
import Derived.WalkLawsBesides
namespace Go.Proofs.YtonehmjoolflfaaGreatDoor
open Go Go.RowKit Grp
set_option linter.unusedVariables false
set_option linter.unusedSimpArgs false
/-- A list turned: from place t on, then its first t places. -/
def tuL (t : Nat) (os : List Int) : List Int := os.drop t ++ os.take t
theorem tu_len (t : Nat) (os : List Int) : (tuL t os).length = os.length := by unfold tuL; simp; omega
theorem tu_at {t : Nat} {os : List Int} (ht : t ≤ os.length) {k : Nat} (hk : k < os.length) : gi (tuL t os) k = gi os (if k < os.length - t then t + k else k - (os.length - t)) := by
  unfold tuL gi
  rw [List.getD_eq_getElem?_getD, List.getD_eq_getElem?_getD]
  by_cases h : k < os.length - t
  · rw [if_pos h, List.getElem?_append_left (by simp; omega), List.getElem?_drop]
  · rw [if_neg h, List.getElem?_append_right (by simp; omega), List.length_drop, List.getElem?_take, if_pos (by omega)]
theorem tu_prod (t : Nat) (os : List Int) : prodL (tuL t os) = prodL os := by
  unfold tuL
  rw [prodL_append, Int.mul_comm, ← prodL_append, List.take_append_drop]
theorem tu_mem {t : Nat} {os : List Int} {m : Int} (h : m ∈ tuL t os) : m ∈ os := by
  unfold tuL at h
  rcases List.mem_append.1 h with h | h
  · exact List.mem_of_mem_drop h
  · exact List.mem_of_mem_take h
theorem tu_ok {os : List Int} (h : OkG os) (t : Nat) : OkG (tuL t os) :=
  ⟨by rw [tu_len]; exact h.l1, by rw [tu_len]; exact h.l4, fun m hm => h.m2 m (tu_mem hm), fun m hm => h.m16 m (tu_mem hm), by rw [tu_prod]; exact h.p16⟩
/-- The digits of a turned number, turned back. -/
def bkL (t : Nat) (os : List Int) (x : Int) : List Int := tuL (os.length - t) (Dg (tuL t os) x)
theorem bk_len (t : Nat) (os : List Int) (x : Int) : (bkL t os x).length = os.length := by unfold bkL; rw [tu_len, Dg_length, tu_len]
theorem bk_rng {os : List Int} (h : OkG os) {t : Nat} (ht : t ≤ os.length) {x : Int} (hx : 0 ≤ x) : ∀ k, k < os.length → 0 ≤ gi (bkL t os x) k ∧ gi (bkL t os x) k < gi os k := by
  intro k hk
  have hl : (Dg (tuL t os) x).length = os.length := by rw [Dg_length, tu_len]
  have key : ∀ j, j < os.length → 0 ≤ gi (Dg (tuL t os) x) j ∧ gi (Dg (tuL t os) x) j < gi (tuL t os) j := fun j hj => Dg_rng (tu_ok h t) hx (by rw [tu_len]; exact hj)
  unfold bkL
  rw [tu_at (by omega) (by omega), hl]
  by_cases hc : k < os.length - (os.length - t)
  · rw [if_pos hc]
    have := key (os.length - t + k) (by omega)
    rw [tu_at ht (by omega), if_neg (by omega), show os.length - t + k - (os.length - t) = k by omega] at this
    exact this
  · rw [if_neg hc]
    have := key (k - (os.length - (os.length - t))) (by omega)
    rw [tu_at ht (by omega), if_pos (by omega), show t + (k - (os.length - (os.length - t))) = k by omega] at this
    exact this
theorem elR_rng : ∀ (r s : List Int), s.length = r.length → Pos r → (∀ k, k < r.length → 0 ≤ gi s k ∧ gi s k < gi r k) → 0 ≤ elR r s ∧ elR r s < prodL r := by
  intro r
  induction r with
  | nil => intro s _ _ _; simp [elR, prodL]
  | cons m r ih =>
    intro s hs hp hk
    cases s with
    | nil => simp at hs
    | cons d s =>
      have h0 := hk 0 (by simp)
      have h0 : 0 ≤ d ∧ d < m := by simpa [gi] using h0
      obtain ⟨i1, i2⟩ := ih s (by simpa using hs) hp.tail (fun k hk2 => by have := hk (k + 1) (by simpa using hk2); simpa [gi] using this)
      have hm := hp.head
      have h2 := Int.mul_nonneg (show 0 ≤ m by omega) i1
      have h3 : m * (elR r s + 1) ≤ m * prodL r := Int.mul_le_mul_of_nonneg_left (by omega) (by omega)
      rw [Int.mul_add, Int.mul_one] at h3
      simp only [elR, prodL]
      omega
/-- The element of the digits turned back. -/
def elB (t : Nat) (os : List Int) (x : Int) : Int := elR os.reverse (bkL t os x).reverse
theorem elB_rng {os : List Int} (h : OkG os) {t : Nat} (ht : t ≤ os.length) {x : Int} (hx : 0 ≤ x) : 0 ≤ elB t os x ∧ elB t os x < prodL os := by
  have hl := bk_len t os x
  have := elR_rng os.reverse (bkL t os x).reverse (by simp [hl]) h.posR (fun k hk => by
    rw [List.length_reverse] at hk
    rw [gi_reverse (by omega), gi_reverse (by omega), hl]
    exact bk_rng h ht hx _ (by omega))
  rw [prodL_reverse] at this
  exact this
theorem Sl.grownS {w w' : World} {B S : Nat} {A : Option Addr} {n c : Nat} {xs : List Int} (h : Sl w B A n c xs) (hB : B ≤ w.heap.size) (hn : ∀ b off sp, A = some ⟨b, off, sp⟩ → 0 < n → b ≠ S) (hg : w.grownBy w' (some S)) : Sl w' B A n c xs := by
  refine ⟨h.len, h.cap, h.rng, fun h0 => ?_, h.nil_⟩
  obtain ⟨b, off, e, hb, hc⟩ := h.at_ h0
  have hne := hn b off none e h0
  refine ⟨b, off, e, hb, fun k hk => ?_⟩
  have hbk := hg.block b (by omega) (fun e => hne (Option.some.inj e))
  rw [← hc k hk]
  unfold World.cell?
  rw [hbk]
theorem Ow.slOf {w : World} {B : Nat} {A : Option Addr} {n c : Nat} {xs : List Int} (h : Ow w B (.slice A n c) xs) (hr : ∀ x ∈ xs, i64ok x) : Sl w w.heap.size A n c xs := by
  obtain ⟨A', c', e, s⟩ := h.sl hr
  injection e with e1 e2 e3
  subst e1; subst e2; subst e3
  exact s
/-- The first metric lies in block gm, the second one, without values yet, in block go; its orders are the call's own, from block B on. -/
structure TuS (w : World) (B gm go : Nat) (A1 : Option Addr) (c1 : Nat) (A2 : Option Addr) (c2 : Nat) (os : List Int) (q : Int) (vs : List Int) (A3 : Option Addr) (c3 : Nat) (ps : List Int) (q2 : Int) (wx : World) : Prop where
  b1 : Blk wx gm 26 #[.slice A1 os.length c1, .int .i64 q, .slice A2 vs.length c2]
  t1 : Blk wx w.heap.size 26 #[.slice none 0 0, .int .i64 0, .slice none 0 0]
  t2 : Blk wx (w.heap.size + 1) 26 #[.slice none 0 0, .int .i64 0, .slice none 0 0]
  out : Blk wx go 26 #[.slice A3 ps.length c3, .int .i64 q2, .slice none 0 0]
  s1 : Sl wx B A1 os.length c1 os
  s2 : Sl wx B A2 vs.length c2 vs
  o3 : Ow wx B (.slice A3 ps.length c3) ps
  kk : Below w.heap.size w wx
  lo : w.heap.size + 1 < B
  hi : B ≤ wx.heap.size
/-- It returned two metrics that it made, in blocks of its own. -/
def DTwL (w : World) (e : Ending) (w' : World) : Prop := ∃ A1 c1 A2 c2 os q vs E1 d1 E2 d2 ps y us, e = .returned (.tuple #[.agg #[.slice A1 (List.length os) c1, .int .i64 q, .slice A2 (List.length vs) c2], .agg #[.slice E1 (List.length ps) d1, .int .i64 y, .slice E2 (List.length us) d2]]) ∧ GenM os q vs ∧ GenM ps y us ∧
  Sl w' w'.heap.size A1 os.length c1 os ∧ Sl w' w'.heap.size A2 vs.length c2 vs ∧ Sl w' w'.heap.size E1 ps.length d1 ps ∧ Sl w' w'.heap.size E2 us.length d2 us ∧ (LoB w.heap.size A1 os.length ∧ LoB w.heap.size A2 vs.length ∧ LoB w.heap.size E1 ps.length ∧ LoB w.heap.size E2 us.length) ∧ Below w.heap.size w w'
section
variable {w wx wy : World} {B gm go c1 c2 c3 : Nat} {A1 A2 A3 : Option Addr} {os vs ps : List Int} {q q2 : Int}
theorem TuS.grown {S : Nat} (h : TuS w B gm go A1 c1 A2 c2 os q vs A3 c3 ps q2 wx) (hg : wx.grownBy wy (some S)) (hS : w.heap.size + 1 < S) (hB : S < B) (n1 : S ≠ gm) (n2 : S ≠ go)
    (m1 : ∀ b off sp, A1 = some ⟨b, off, sp⟩ → 0 < os.length → b ≠ S) (m2 : ∀ b off sp, A2 = some ⟨b, off, sp⟩ → 0 < vs.length → b ≠ S) : TuS w B gm go A1 c1 A2 c2 os q vs A3 c3 ps q2 wy := by
  have hsz := h.kk.size
  have hlo := h.lo
  have hhi := h.hi
  exact ⟨h.b1.grown hg (by simp; omega), h.t1.grown hg (by simp; omega), h.t2.grown hg (by simp; omega), h.out.grown hg (by simp; omega), h.s1.grownS hhi m1 hg, h.s2.grownS hhi m2 hg,
    h.o3.far hg (fun b hb e => by have := h.o3.lt b hb; injection e with e; omega), h.kk.grown hg hsz (fun k hk => by injection hk with hk; omega), hlo, Nat.le_trans hhi hg.size⟩
theorem TuS.drewN (h : TuS w B gm go A1 c1 A2 c2 os q vs A3 c3 ps q2 wx) (m : Nat) : TuS w B gm go A1 c1 A2 c2 os q vs A3 c3 ps q2 (wx.drewN m) :=
  ⟨h.b1.drewN m, h.t1.drewN m, h.t2.drewN m, h.out.drewN m, h.s1.drewN m, h.s2.drewN m, h.o3.drewN m, below_drewN h.kk m, h.lo, h.hi⟩
theorem TuS.setq (h : TuS w B gm go A1 c1 A2 c2 os q vs A3 c3 ps q2 wx) (hB : B ≤ go) (n1 : gm ≠ go) (q3 : Int) : TuS w B gm go A1 c1 A2 c2 os q vs A3 c3 ps q3 (wx.setCell ⟨go, 1, none⟩ (.int .i64 q3)) := by
  have hlo := h.lo
  exact ⟨h.b1.far n1 _, h.t1.far (by show w.heap.size ≠ go; omega) _, h.t2.far (by show w.heap.size + 1 ≠ go; omega) _, h.out.store 1 _, h.s1.setCell hB _, h.s2.setCell hB _, h.o3.setCell h.out (by decide) 1 _, h.kk.setCell (by show w.heap.size ≤ go; omega) _, hlo, by simpa [World.setCell] using h.hi⟩
end
theorem slS_all {w w' : World} {S : Nat} {A : Option Addr} {n c : Nat} {xs : List Int} (h : SlS w S A n c xs) (hb : Below w.heap.size w w') : SlS w' S A n c xs := ⟨(h.sl.below hb).more hb.size, h.ne⟩
theorem drew_gr (w : World) (row : Option Nat) : w.grownBy w.drew row := ⟨rfl, rfl, rfl, Nat.le_refl _, fun _ _ _ => rfl⟩
set_option maxRecDepth 100000 in
set_option maxHeartbeats 8000000 in
theorem l10Two_any (w : World) (A : Option Addr) (n c : Nat) (bs : List Int) (hb : SlB w w.heap.size A n c bs) (hn : n ≤ 4096) : Calls Tryz.prog 22 #[.slice A n c] w (DTwL w) := by
  go_enter Tryz.func22, Tryz.ntmps22
  obtain ⟨W0, hW0⟩ : ∃ W0, (w.alloc (.cells #[.slice none 0 0, .int .i64 0, .slice none 0 0] 26)).alloc (.cells #[.slice none 0 0, .int .i64 0, .slice none 0 0] 26) = W0 := ⟨_, rfl⟩
  have bR : Blk W0 w.heap.size 26 #[.slice none 0 0, .int .i64 0, .slice none 0 0] := by rw [← hW0]; exact (Blk.new _ _ _).alloc _
  have bR2 : Blk W0 (w.heap.size + 1) 26 #[.slice none 0 0, .int .i64 0, .slice none 0 0] := by rw [← hW0]; exact Blk.new' _ _ _ _ (by simp)
  have k0 : Below w.heap.size w W0 := by rw [← hW0]; exact (by repeat (first | assumption | exact Below.refl _ _ | apply below_drewN | apply Below.drew | apply Below.alloc | apply Below.setCell | omega | (focus (simp; done)) | (focus (simp; omega))))
  have z0 : w.heap.size + 2 = W0.heap.size := by rw [← hW0]; simp
  have hb0 : SlB W0 W0.heap.size A n c bs := ⟨hb.len, hb.cap, hb.rng, fun h => by
    obtain ⟨b, off, e, hlt, hc⟩ := hb.at_ h
    exact ⟨b, off, e, by omega, fun k hk => (k0.cell (p := ⟨b, off + k, none⟩) hlt).trans (hc k hk)⟩⟩
  go_wp2_with fail
  clear hW0
  refine (l01From_any W0 A n c bs hb0 hn).mono ?_
  rintro e w1 ⟨S, rfl, s1⟩
  have bR := bR.below s1.below (by omega)
  have bR2 := bR2.below s1.below (by omega)
  have z1 := s1.below.size
  have hSz := s1.hS
  go_wp2_with fail
  refine (l10Spoil_any W0 w1 W0.heap.size S A n c 0 bs hb0 (by omega) s1 z1).mono ?_
  rintro e w2 ⟨A1, c1, A2, c2, os, q, vs, rfl, hG, sl1, sl2, ⟨l1, l2⟩, s2, g2⟩
  replace bR := bR.grown g2 (by simp; omega)
  replace bR2 := bR2.grown g2 (by simp; omega)
  have z2 := g2.size
  obtain ⟨w3, gm, hgm, hw3, hB3, hsub, bM, hgB⟩ := be_alloc (Below.refl w2.heap.size w2) 26 #[.slice none 0 0, .int .i64 0, .slice none 0 0]
  have hgS : gm ≠ S := by have := s2.lt; rw [← hgm]; omega
  have hgW : W0.heap.size ≤ gm := by rw [← hgm]; omega
  have b1 := put3_blk (x := .slice A1 os.length c1) (y := .int .i64 q) (z := .slice A2 vs.length c2) bM
  have a1 : SlS (put3 w3 gm (.slice A1 os.length c1) (.int .i64 q) (.slice A2 vs.length c2)) S A1 os.length c1 os := by
    have a1 : SlS w3 S A1 os.length c1 os := by rw [← hw3]; exact sl1.alloc _
    exact slS_put3 a1 ⟨a1.sl, fun b off sp e hn => by obtain ⟨b', off', e', hlt, _⟩ := sl1.sl.at_ hn; rw [e'] at e; injection e with e; injection e with e1; omega⟩
  have a2 : SlS (put3 w3 gm (.slice A1 os.length c1) (.int .i64 q) (.slice A2 vs.length c2)) S A2 vs.length c2 vs := by
    have a2 : SlS w3 S A2 vs.length c2 vs := by rw [← hw3]; exact sl2.alloc _
    exact slS_put3 a2 ⟨a2.sl, fun b off sp e hn => by obtain ⟨b', off', e', hlt, _⟩ := sl2.sl.at_ hn; rw [e'] at e; injection e with e; injection e with e1; omega⟩
  have t1 := put3_far (x := .slice A1 os.length c1) (y := .int .i64 q) (z := .slice A2 vs.length c2) (bR.all hB3) (show w.heap.size ≠ gm by omega)
  have t2 := put3_far (x := .slice A1 os.length c1) (y := .int .i64 q) (z := .slice A2 vs.length c2) (bR2.all hB3) (show w.heap.size + 1 ≠ gm by omega)
  have sr := ((s2.e.all hB3 (by omega)).put3 hgS hgW (.slice A1 os.length c1) (.int .i64 q) (.slice A2 vs.length c2)).any
  obtain ⟨W3, hW3⟩ : ∃ W3, put3 w3 gm (.slice A1 os.length c1) (.int .i64 q) (.slice A2 vs.length c2) = W3 := ⟨_, rfl⟩
  have r0 := bM.cell 0
  have r1 := bM.cell 1
  have r2 := bM.cell 2
  have f0 := bM.frozen 0
  have f1 := bM.frozen 1
  have f2 := bM.frozen 2
  rw [hW3] at b1 a1 a2 t1 t2 sr
  unfold put3 at hW3
  clear hB3 hsub bM bR bR2 s2 g2 sl1 sl2
  have hz3 := sr.below.size
  have lo := hG.o
  have lv := hG.v
  have hlm : gm < W3.heap.size := b1.lt
  have hRS1 : w.heap.size ≠ S := by omega
  have hRS2 : w.heap.size + 1 ≠ S := by omega
  have hz1 : w.heap.size + 1 < w1.heap.size := by omega
  go_upto_region 3 with fail
  clear hw3 hW3 r0 r1 r2 f0 f1 f2
  have j0 := b1.cell 0
  have j1 := b1.cell 1
  have j2 := b1.cell 2
  cases hI : isM os q vs with
  | false =>
    go_wp2_with fail
    clear j0 j1 j2
    refine (l10Is_v false _ _ _ _ _ _ _ _ _ _ a1.sl a2.sl (by omega) (by omega) hI).mono ?_
    rintro e w4 ⟨rfl, hb4⟩
    have hz4 := Nat.le_trans hz3 hb4.size
    replace b1 := b1.all hb4
    replace t1 := t1.all hb4
    replace t2 := t2.all hb4
    replace a1 := slS_all a1 hb4
    replace a2 := slS_all a2 hb4
    replace sr := (sr.e.all hb4 hz3).any
    replace hlm := b1.lt
    clear hb4
    go_upto_region 4 with fail
    have j0 := b1.cell 0
    have j1 := b1.cell 1
    have j2 := b1.cell 2
    go_wp2_with fail
    refine wp_region_ord [0, 1, 2, 3, 4] 4 (fun wx => wx.cell? ⟨gm, 0, none⟩ = some (.slice A1 (List.length os) c1) ∧ wx.cell? ⟨gm, 1, none⟩ = some (.int .i64 q) ∧ wx.cell? ⟨gm, 2, none⟩ = some (.slice A2 (List.length vs) c2)) (by kernel_rfl) (by kernel_rfl) (by kernel_rfl) (fun _ _ _ _ _ h => h) ⟨j0, j1, j2⟩ ?_
    repeat (apply ord_take rfl (by rfl) (by rfl); (focus (intro w hSw; (try dsimp only at hSw); go_simp; (try with_reducible rfl))); (try simp only [Act.put, List.setIfInBounds_toArray, List.set_cons_zero, List.set_cons_succ]))
    have gD := drew_gr w4 (some S)
    have sd : Src W0 W0.heap.size S A n c 0 w4.drew := sr.drewN 1
    have lz4 : W0.heap.size ≤ w4.drew.heap.size := hz4
    replace b1 := b1.grown gD (by simp; omega)
    replace t1 := t1.grown gD (by simp; omega)
    replace t2 := t2.grown gD (by simp; omega)
    replace a1 := a1.grown gD
    replace a2 := a2.grown gD
    clear j0 j1 j2 gD
    refine ord_do rfl (by rfl) (by rfl) (fun K hK => ?_)
    go_simp
    refine (smallS_any W0 w4.drew W0.heap.size S A n c 0 bs hb0 (by omega) sd lz4 8 (by omega) (by omega)).mono ?_
    rintro e w6 ⟨E1, d1, E2, d2, ps, y, us, rfl, hG2, e1, e2, ⟨lf1, lf2⟩, s6, g6⟩
    have gE := g6
    replace b1 := b1.grown gE (by simp; omega)
    replace t1 := t1.grown gE (by simp; omega)
    replace t2 := t2.grown gE (by simp; omega)
    replace a1 := a1.grown gE
    replace a2 := a2.grown gE
    clear gE g6
    refine hK.out _ _ (fun _ => ⟨b1.cell 0, b1.cell 1, b1.cell 2⟩) ?_
    (try simp only [Act.put, List.setIfInBounds_toArray, List.set_cons_zero, List.set_cons_succ])
    clear hK K
    have k6 := k0.trans (s6.below.mono (show w.heap.size ≤ W0.heap.size by omega))
    have n1 := put3_far (x := .slice A1 (List.length os) c1) (y := .int .i64 q) (z := .slice A2 (List.length vs) c2) b1 (show gm ≠ w.heap.size by omega)
    have n2 := put3_far (x := .slice A1 (List.length os) c1) (y := .int .i64 q) (z := .slice A2 (List.length vs) c2) t2 (show w.heap.size + 1 ≠ w.heap.size by omega)
    have n3 := put3_blk (x := .slice A1 (List.length os) c1) (y := .int .i64 q) (z := .slice A2 (List.length vs) c2) t1
    have n4 := slS_low (x := .slice A1 (List.length os) c1) (y := .int .i64 q) (z := .slice A2 (List.length vs) c2) a1 l1 (show w.heap.size < w1.heap.size by omega)
    have n5 := slS_low (x := .slice A1 (List.length os) c1) (y := .int .i64 q) (z := .slice A2 (List.length vs) c2) a2 l2 (show w.heap.size < w1.heap.size by omega)
    have n6 := slS_low (x := .slice A1 (List.length os) c1) (y := .int .i64 q) (z := .slice A2 (List.length vs) c2) e1 lf1 (show w.heap.size < w4.drew.heap.size by omega)
    have n7 := slS_low (x := .slice A1 (List.length os) c1) (y := .int .i64 q) (z := .slice A2 (List.length vs) c2) e2 lf2 (show w.heap.size < w4.drew.heap.size by omega)
    have n9 := put3_far (x := .slice A1 (List.length os) c1) (y := .int .i64 q) (z := .slice A2 (List.length vs) c2) b1 (show gm ≠ w.heap.size by omega)
    have n8 := put3_below (x := .slice A1 (List.length os) c1) (y := .int .i64 q) (z := .slice A2 (List.length vs) c2) k6 (Nat.le_refl _)
    obtain ⟨W7, hW7⟩ : ∃ W7, put3 w6 w.heap.size (.slice A1 (List.length os) c1) (.int .i64 q) (.slice A2 (List.length vs) c2) = W7 := ⟨_, rfl⟩
    have r0 := t1.cell 0
    have r1 := t1.cell 1
    have r2 := t1.cell 2
    have f0 := t1.frozen 0
    have f1 := t1.frozen 1
    have f2 := t1.frozen 2
    rw [hW7] at n1 n2 n3 n4 n5 n6 n7 n8 n9
    unfold put3 at hW7
    refine ord_do rfl (by rfl) (by rfl) (fun K hK => ?_)
    go_simp
    refine hK.out _ _ (fun _ => ⟨n1.cell 0, n1.cell 1, n1.cell 2⟩) ?_
    (try simp only [Act.put, List.setIfInBounds_toArray, List.set_cons_zero, List.set_cons_succ])
    clear hK K
    clear r0 r1 r2 f0 f1 f2 hW7
    have r0 := n2.cell 0
    have r1 := n2.cell 1
    have r2 := n2.cell 2
    have f0 := n2.frozen 0
    have f1 := n2.frozen 1
    have f2 := n2.frozen 2
    refine ord_do rfl (by rfl) (by rfl) (fun K hK => ?_)
    go_simp
    refine hK.out _ _ (fun h => absurd h (by omega)) ?_
    (try simp only [Act.put, List.setIfInBounds_toArray, List.set_cons_zero, List.set_cons_succ])
    clear hK K
    refine ord_nil ?_
    have m1 := put3_blk (x := .slice E1 (List.length ps) d1) (y := .int .i64 y) (z := .slice E2 (List.length us) d2) n2
    have m2 := put3_far (x := .slice E1 (List.length ps) d1) (y := .int .i64 y) (z := .slice E2 (List.length us) d2) n3 (show w.heap.size ≠ w.heap.size + 1 by omega)
    go_wp2_with fail
    have q0 := m1.cell 0
    have q1 := m1.cell 1
    have q2 := m1.cell 2
    have p0 := m2.cell 0
    have p1 := m2.cell 1
    have p2 := m2.cell 2
    unfold put3 at q0 q1 q2 p0 p1 p2
    refine bodyPost_ret (v := .tuple #[.agg #[.slice A1 (List.length os) c1, .int .i64 q, .slice A2 (List.length vs) c2], .agg #[.slice E1 (List.length ps) d1, .int .i64 y, .slice E2 (List.length us) d2]]) (by simp [results, Tryz.results22, go_sem, q0, q1, q2, p0, p1, p2]) rfl ?_
    exact ⟨A1, c1, A2, c2, os, q, vs, E1, d1, E2, d2, ps, y, us, rfl, hG, hG2, slS_out n4 l1 (show w.heap.size + 1 < w1.heap.size by omega), slS_out n5 l2 (show w.heap.size + 1 < w1.heap.size by omega), slS_out n6 lf1 (show w.heap.size + 1 < w4.drew.heap.size by omega), slS_out n7 lf2 (show w.heap.size + 1 < w4.drew.heap.size by omega), ⟨l1.less (show w.heap.size ≤ w1.heap.size by omega), l2.less (show w.heap.size ≤ w1.heap.size by omega), lf1.less (show w.heap.size ≤ w4.drew.heap.size by omega), lf2.less (show w.heap.size ≤ w4.drew.heap.size by omega)⟩, put3_below n8 (by omega)⟩
  | true =>
    go_wp2_with fail
    clear j0 j1 j2
    refine (l10Is_v true _ _ _ _ _ _ _ _ _ _ a1.sl a2.sl (by omega) (by omega) hI).mono ?_
    rintro e w4 ⟨rfl, hb4⟩
    have hz4 := Nat.le_trans hz3 hb4.size
    replace b1 := b1.all hb4
    replace t1 := t1.all hb4
    replace t2 := t2.all hb4
    replace a1 := slS_all a1 hb4
    replace a2 := slS_all a2 hb4
    replace sr := (sr.e.all hb4 hz3).any
    replace hlm := b1.lt
    clear hb4
    go_wp2_with fail
    refine (l01Next_any W0 _ _ S A n c 0 bs hb0 (by omega) sr 4 ⟨by omega, by omega⟩).mono ?_
    rintro e w5 ⟨x, rfl, ⟨x0, x1, -⟩, s5, g5⟩
    replace x1 := x1 (by omega)
    replace b1 := b1.grown g5 (by simp; omega)
    replace t1 := t1.grown g5 (by simp; omega)
    replace t2 := t2.grown g5 (by simp; omega)
    replace a1 := a1.grown g5
    replace a2 := a2.grown g5
    replace sr := s5
    replace hz4 := sr.below.size
    replace hlm := b1.lt
    clear s5 g5
    by_cases c0 : x = 0
    · subst c0
      go_upto_region 4 with fail
      have j0 := b1.cell 0
      have j1 := b1.cell 1
      have j2 := b1.cell 2
      go_wp2_with fail
      refine wp_region_ord [0, 1, 2, 3, 4] 4 (fun wx => wx.cell? ⟨gm, 0, none⟩ = some (.slice A1 (List.length os) c1) ∧ wx.cell? ⟨gm, 1, none⟩ = some (.int .i64 q) ∧ wx.cell? ⟨gm, 2, none⟩ = some (.slice A2 (List.length vs) c2)) (by kernel_rfl) (by kernel_rfl) (by kernel_rfl) (fun _ _ _ _ _ h => h) ⟨j0, j1, j2⟩ ?_
      repeat (apply ord_take rfl (by rfl) (by rfl); (focus (intro w hSw; (try dsimp only at hSw); go_simp; (try with_reducible rfl))); (try simp only [Act.put, List.setIfInBounds_toArray, List.set_cons_zero, List.set_cons_succ]))
      have gD := drew_gr w5 (some S)
      have sd : Src W0 W0.heap.size S A n c 0 w5.drew := sr.drewN 1
      have lz4 : W0.heap.size ≤ w5.drew.heap.size := hz4
      replace b1 := b1.grown gD (by simp; omega)
      replace t1 := t1.grown gD (by simp; omega)
      replace t2 := t2.grown gD (by simp; omega)
      replace a1 := a1.grown gD
      replace a2 := a2.grown gD
      clear j0 j1 j2 gD
      refine ord_do rfl (by rfl) (by rfl) (fun K hK => ?_)
      go_simp
      refine (smallS_any W0 w5.drew W0.heap.size S A n c 0 bs hb0 (by omega) sd lz4 8 (by omega) (by omega)).mono ?_
      rintro e w6 ⟨E1, d1, E2, d2, ps, y, us, rfl, hG2, e1, e2, ⟨lf1, lf2⟩, s6, g6⟩
      have gE := g6
      replace b1 := b1.grown gE (by simp; omega)
      replace t1 := t1.grown gE (by simp; omega)
      replace t2 := t2.grown gE (by simp; omega)
      replace a1 := a1.grown gE
      replace a2 := a2.grown gE
      clear gE g6
      refine hK.out _ _ (fun _ => ⟨b1.cell 0, b1.cell 1, b1.cell 2⟩) ?_
      (try simp only [Act.put, List.setIfInBounds_toArray, List.set_cons_zero, List.set_cons_succ])
      clear hK K
      have k6 := k0.trans (s6.below.mono (show w.heap.size ≤ W0.heap.size by omega))
      have n1 := put3_far (x := .slice A1 (List.length os) c1) (y := .int .i64 q) (z := .slice A2 (List.length vs) c2) b1 (show gm ≠ w.heap.size by omega)
      have n2 := put3_far (x := .slice A1 (List.length os) c1) (y := .int .i64 q) (z := .slice A2 (List.length vs) c2) t2 (show w.heap.size + 1 ≠ w.heap.size by omega)
      have n3 := put3_blk (x := .slice A1 (List.length os) c1) (y := .int .i64 q) (z := .slice A2 (List.length vs) c2) t1
      have n4 := slS_low (x := .slice A1 (List.length os) c1) (y := .int .i64 q) (z := .slice A2 (List.length vs) c2) a1 l1 (show w.heap.size < w1.heap.size by omega)
      have n5 := slS_low (x := .slice A1 (List.length os) c1) (y := .int .i64 q) (z := .slice A2 (List.length vs) c2) a2 l2 (show w.heap.size < w1.heap.size by omega)
      have n6 := slS_low (x := .slice A1 (List.length os) c1) (y := .int .i64 q) (z := .slice A2 (List.length vs) c2) e1 lf1 (show w.heap.size < w5.drew.heap.size by omega)
      have n7 := slS_low (x := .slice A1 (List.length os) c1) (y := .int .i64 q) (z := .slice A2 (List.length vs) c2) e2 lf2 (show w.heap.size < w5.drew.heap.size by omega)
      have n9 := put3_far (x := .slice A1 (List.length os) c1) (y := .int .i64 q) (z := .slice A2 (List.length vs) c2) b1 (show gm ≠ w.heap.size by omega)
      have n8 := put3_below (x := .slice A1 (List.length os) c1) (y := .int .i64 q) (z := .slice A2 (List.length vs) c2) k6 (Nat.le_refl _)
      obtain ⟨W7, hW7⟩ : ∃ W7, put3 w6 w.heap.size (.slice A1 (List.length os) c1) (.int .i64 q) (.slice A2 (List.length vs) c2) = W7 := ⟨_, rfl⟩
      have r0 := t1.cell 0
      have r1 := t1.cell 1
      have r2 := t1.cell 2
      have f0 := t1.frozen 0
      have f1 := t1.frozen 1
      have f2 := t1.frozen 2
      rw [hW7] at n1 n2 n3 n4 n5 n6 n7 n8 n9
      unfold put3 at hW7
      refine ord_do rfl (by rfl) (by rfl) (fun K hK => ?_)
      go_simp
      refine hK.out _ _ (fun _ => ⟨n1.cell 0, n1.cell 1, n1.cell 2⟩) ?_
      (try simp only [Act.put, List.setIfInBounds_toArray, List.set_cons_zero, List.set_cons_succ])
      clear hK K
      clear r0 r1 r2 f0 f1 f2 hW7
      have r0 := n2.cell 0
      have r1 := n2.cell 1
      have r2 := n2.cell 2
      have f0 := n2.frozen 0
      have f1 := n2.frozen 1
      have f2 := n2.frozen 2
      refine ord_do rfl (by rfl) (by rfl) (fun K hK => ?_)
      go_simp
      refine hK.out _ _ (fun h => absurd h (by omega)) ?_
      (try simp only [Act.put, List.setIfInBounds_toArray, List.set_cons_zero, List.set_cons_succ])
      clear hK K
      refine ord_nil ?_
      have m1 := put3_blk (x := .slice E1 (List.length ps) d1) (y := .int .i64 y) (z := .slice E2 (List.length us) d2) n2
      have m2 := put3_far (x := .slice E1 (List.length ps) d1) (y := .int .i64 y) (z := .slice E2 (List.length us) d2) n3 (show w.heap.size ≠ w.heap.size + 1 by omega)
      go_wp2_with fail
      have q0 := m1.cell 0
      have q1 := m1.cell 1
      have q2 := m1.cell 2
      have p0 := m2.cell 0
      have p1 := m2.cell 1
      have p2 := m2.cell 2
      unfold put3 at q0 q1 q2 p0 p1 p2
      refine bodyPost_ret (v := .tuple #[.agg #[.slice A1 (List.length os) c1, .int .i64 q, .slice A2 (List.length vs) c2], .agg #[.slice E1 (List.length ps) d1, .int .i64 y, .slice E2 (List.length us) d2]]) (by simp [results, Tryz.results22, go_sem, q0, q1, q2, p0, p1, p2]) rfl ?_
      exact ⟨A1, c1, A2, c2, os, q, vs, E1, d1, E2, d2, ps, y, us, rfl, hG, hG2, slS_out n4 l1 (show w.heap.size + 1 < w1.heap.size by omega), slS_out n5 l2 (show w.heap.size + 1 < w1.heap.size by omega), slS_out n6 lf1 (show w.heap.size + 1 < w5.drew.heap.size by omega), slS_out n7 lf2 (show w.heap.size + 1 < w5.drew.heap.size by omega), ⟨l1.less (show w.heap.size ≤ w1.heap.size by omega), l2.less (show w.heap.size ≤ w1.heap.size by omega), lf1.less (show w.heap.size ≤ w5.drew.heap.size by omega), lf2.less (show w.heap.size ≤ w5.drew.heap.size by omega)⟩, put3_below n8 (by omega)⟩
    · go_upto_region 5 with fail
      have IM := isM_iff.1 hI
      have hl1 := IM.ok.g.l1
      have hl4 := IM.ok.g.l4
      have HIM := hide IM
      clear IM
      have j0 := b1.cell 0
      have j1 := b1.cell 1
      have j2 := b1.cell 2
      go_wp2_with fail
      clear j0 j1 j2
      refine (l01Next_any W0 _ _ S A n c 0 bs hb0 (by omega) sr (os.length : Int) ⟨by omega, by omega⟩).mono ?_
      rintro e w6 ⟨y, rfl, ⟨y0, y1, -⟩, s6, g6⟩
      replace y1 := y1 (by omega)
      replace b1 := b1.grown g6 (by simp; omega)
      replace t1 := t1.grown g6 (by simp; omega)
      replace t2 := t2.grown g6 (by simp; omega)
      replace a1 := a1.grown g6
      replace a2 := a2.grown g6
      replace sr := s6
      replace hz4 := sr.below.size
      replace hlm := b1.lt
      clear s6 g6
      obtain ⟨tu, rfl⟩ := Int.eq_ofNat_of_zero_le y0
      have htu : tu < os.length := by omega
      obtain ⟨bO, oO, rfl, hbO, hcO⟩ := a1.sl.at_ (by omega)
      go_upto_region 7 with fail
      have hcap := a1.sl.cap
      have q1 : (tu : Int) ≤ (os.length : Int) := by omega
      have q2 : ¬ c1 - tu = 0 := by omega
      have q3 : ¬ (c1 : Int) - (tu : Int) = 0 := by omega
      have q4 : (tu : Int) ≤ (c1 : Int) := by omega
      have q5 : tu ≤ c1 := by omega
      have q6 : ¬ c1 = tu := by omega
      have j0 := b1.cell 0
      have j1 := b1.cell 1
      have j2 := b1.cell 2
      refine wp_region_be [0, 1, 2, 3, 5, 6, 7, 8, 4, 9, 10] 10 w6.heap.size w6 (by kernel_rfl) (by kernel_rfl) (by kernel_rfl) (fun _ _ _ _ _ h => h) (Below.refl _ _) (fun wd hBe => ?_)
      repeat (first | (apply ord_tk rfl (by rfl) (by rfl) (by rfl); (focus (intro wx hSw; have i0 := (hSw.cell (p := ⟨gm, 0, none⟩) hlm).trans j0; go_simp; (try with_reducible rfl))); (try simp only [Act.put, List.setIfInBounds_toArray, List.set_cons_zero, List.set_cons_succ])) | (apply ord_skip rfl (by rfl) (by rfl) (fun _ => hBe); (try simp only [Act.put, List.setIfInBounds_toArray, List.set_cons_zero, List.set_cons_succ])))
      have sT := a1.sl.tailC tu (by omega)
      rw [if_neg q6] at sT
      have sH := a1.sl.headC tu (by omega)
      have HrO := hide (show ∀ x ∈ os, i64ok x from a1.sl.rng)
      refine ord_do rfl (by rfl) (by rfl) (fun K hK => ?_)
      go_simp
      refine (l01Own_any _ _ _ _ _ _ (sT.below hBe) hBe.size (by omega)).mono ?_
      rintro e w7 ⟨v, rfl, hO, hb7⟩
      have z7 := hBe.size
      replace hBe := hBe.trans (hb7.mono hBe.size)
      refine hK.out _ _ (fun _ => hBe) ?_
      (try simp only [Act.put, List.setIfInBounds_toArray, List.set_cons_zero, List.set_cons_succ])
      clear hK K
      repeat (first | (apply ord_tk rfl (by rfl) (by rfl) (by rfl); (focus (intro wx hSw; have i0 := (hSw.cell (p := ⟨gm, 0, none⟩) hlm).trans j0; go_simp; (try with_reducible rfl))); (try simp only [Act.put, List.setIfInBounds_toArray, List.set_cons_zero, List.set_cons_succ])) | (apply ord_skip rfl (by rfl) (by rfl) (fun _ => hBe); (try simp only [Act.put, List.setIfInBounds_toArray, List.set_cons_zero, List.set_cons_succ])))
      refine ord_do rfl (by rfl) (by rfl) (fun K hK => ?_)
      refine wp_app w7 _ _ rfl wd.heap.size v (os.drop tu) rfl hO w6.heap.size _ _ _ (os.take tu) rfl (sH.below hBe) (by simp; omega) (by have := hb7.size; omega) ?_
      intro v' w8 hA
      have hB8 := hA.below hO (by have := hb7.size; omega)
      replace hBe := hBe.trans (hB8.mono z7)
      have hO8 := hA.own
      refine hK.out _ _ (fun _ => hBe) ?_
      (try simp only [Act.put, List.setIfInBounds_toArray, List.set_cons_zero, List.set_cons_succ])
      clear hK K
      repeat (first | (apply ord_tk rfl (by rfl) (by rfl) (by rfl); (focus (intro wx hSw; skip; go_simp; (try with_reducible rfl))); (try simp only [Act.put, List.setIfInBounds_toArray, List.set_cons_zero, List.set_cons_succ])) | (apply ord_skip rfl (by rfl) (by rfl) (fun _ => hBe); (try simp only [Act.put, List.setIfInBounds_toArray, List.set_cons_zero, List.set_cons_succ])))
      refine ord_do rfl (by rfl) (by rfl) (fun K hK => ?_)
      go_simp
      refine hK.out _ _ (fun h => absurd h (by omega)) ?_
      (try simp only [Act.put, List.setIfInBounds_toArray, List.set_cons_zero, List.set_cons_succ])
      clear hK K
      refine ord_nil ?_
      -- the source and all that stood before stand at w8
      have hb8 := hBe
      have hB7 : wd.heap.size ≤ w8.heap.size := Nat.le_trans hb7.size (hA.2.1).size
      have s1 := (a1.sl.below hBe).more z7
      have s2 := (a2.sl.below hBe).more z7
      have hgmB : gm < wd.heap.size := by omega
      have hSB : S < wd.heap.size := Nat.lt_of_lt_of_le sr.lt z7
      have hne1 := a1.ne
      have hne2 := a2.ne
      replace b1 := b1.all hb8
      replace t1 := t1.all hb8
      replace t2 := t2.all hb8
      replace sr := (sr.e.all hb8 hz4).any
      replace hz4 := sr.below.size
      obtain ⟨A3, c3, e3, a3⟩ := hO8.slS (fun x hx => HrO.out x (tu_mem (t := tu) hx)) sr.e
      clear hBe hb8 hB8 hA sT sH j0 j1 j2 hb7 a3
      rw [e3] at hO8 ⊢
      have hP4 := tu_len tu os
      have hPk := tu_ok HIM.out.ok.g tu
      have hPp := tu_prod tu os
      have hPr : ∀ x ∈ tuL tu os, i64ok x := fun x hx => HrO.out x (tu_mem hx)
      obtain ⟨ps, hps⟩ : ∃ ps, tuL tu os = ps := ⟨_, rfl⟩
      rw [hps] at hP4 hPk hPp hPr
      replace hO8 : Ow w8 wd.heap.size (.slice A3 (os.drop tu ++ os.take tu).length c3) (os.drop tu ++ os.take tu) := hO8
      rw [show os.drop tu ++ os.take tu = ps from hps] at hO8 ⊢
      obtain ⟨N, hN⟩ : ∃ N : Nat, prodL ps = N := ⟨(prodL ps).toNat, by have := prodL_pos hPk.pos; omega⟩
      have hN16 : N ≤ 16 := by have := hPk.p16; omega
      have hNv : N = vs.length := by have := HIM.out.ok.len; omega
      have HPS := hide hps
      have HPK := hide hPk
      have HPR := hide hPr
      have HNN := hide hN
      have HP4 := hide hP4
      have HNV := hide hNv
      have hp4 : ps.length ≤ 4 := hPk.l4
      have hp1 : 1 ≤ ps.length := hPk.l1
      have hq1 := HIM.out.ok.d1
      have hq2 := HIM.out.ok.d2
      clear hps hPk hPr hN hPp hP4 hNv e3
      obtain ⟨B, hBd⟩ : ∃ B, wd.heap.size = B := ⟨_, rfl⟩
      rw [hBd] at s1 s2 hO8 hgmB hSB hB7 z7
      clear hBd
      have hRB : w.heap.size + 1 < B := by omega
      have hRS : w.heap.size + 1 < S := by have := sr.hS; omega
      have hkk : Below w.heap.size w w8 := k0.trans (sr.below.mono (show w.heap.size ≤ W0.heap.size by omega))
      obtain ⟨w9, go, hgo, hw9, hB9, hsub9, bN9, hgB9⟩ := be_alloc (Below.refl w8.heap.size w8) 26 #[.slice none 0 0, .int .i64 0, .slice none 0 0]
      have hBgo : B ≤ go := by omega
      have hT : TuS w B gm go (some ⟨bO, oO, none⟩) c1 A2 c2 os q vs A3 c3 ps q (put3 w9 go (.slice A3 ps.length c3) (.int .i64 q) (.slice none 0 0)) :=
        ⟨put3_far (b1.all hB9) (by omega), put3_far (t1.all hB9) (by omega), put3_far (t2.all hB9) (by omega), put3_blk bN9,
          (s1.below (hB9.mono hB7)).below (put3_below (Below.refl _ _) hBgo), (s2.below (hB9.mono hB7)).below (put3_below (Below.refl _ _) hBgo),
          put3_own bN9 (by decide) (hO8.below hB9), put3_below (hkk.trans (hB9.mono (by omega))) (by omega), hRB, by rw [put3_size]; have := hB9.size; omega⟩
      have sr9 : Src W0 W0.heap.size S A n c 0 (put3 w9 go (.slice A3 ps.length c3) (.int .i64 q) (.slice none 0 0)) := ((sr.e.all hB9 hz4).put3 (show go ≠ S by omega) (show W0.heap.size ≤ go by omega) _ _ _).any
      have j0 := b1.cell 0
      have j1 := b1.cell 1
      have j2 := b1.cell 2
      obtain ⟨W9, hW9⟩ : ∃ W9, put3 w9 go (.slice A3 ps.length c3) (.int .i64 q) (.slice none 0 0) = W9 := ⟨_, rfl⟩
      have r0 := bN9.cell 0
      have r1 := bN9.cell 1
      have r2 := bN9.cell 2
      have f0 := bN9.frozen 0
      have f1 := bN9.frozen 1
      have f2 := bN9.frozen 2
      rw [hW9] at hT sr9
      unfold put3 at hW9
      clear hB9 hsub9 bN9 hO8 s1 s2 b1 t1 t2 hkk sr hz4 hlm
      go_upto_region 10 with fail
      clear hw9 hW9 r0 r1 r2 f0 f1 f2 j0 j1 j2
      go_cut [57] (fun v wx => ∃ bv, v = .bool bv ∧ TuS w B gm go (some ⟨bO, oO, none⟩) c1 A2 c2 os q vs A3 c3 ps q wx)
      case first =>
        go_wp2_with fail
        refine (l01Next_any W0 _ _ S A n c 0 bs hb0 (by omega) sr9 3 ⟨by omega, by omega⟩).mono ?_
        rintro e w10 ⟨z, rfl, ⟨z0, z1, -⟩, s10, g10⟩
        replace hT := hT.grown g10 hRS hSB (by omega) (by omega) hne1 hne2
        have hb1 := hT.b1
        have j0 := hb1.cell 0
        have j1 := hb1.cell 1
        have j2 := hb1.cell 2
        clear s10 g10 sr9
        by_cases hz : z = 0
        · subst hz
          have hw : IntKind.i64.wrap (2 * q) = 2 * q := wrap_in (by omega) (by omega)
          go_wp2_with fail
          refine (l01Divisor_any _ _).mono ?_
          rintro e w11 ⟨rfl, m, rfl⟩
          go_wp2_with fail
          go_meet
          exact ⟨_, rfl, hT.drewN m⟩
        · go_wp2_with fail
          go_meet
          exact ⟨_, rfl, hT⟩
      case rest =>
        clear hT sr9
        obtain ⟨bv, rfl, hT⟩ := hcut
        go_upto_if 57 with fail
        go_cut [10] (fun f wx => ∃ fv qn : Int, f = .int .i64 fv ∧ 1 ≤ fv ∧ fv ≤ 2 ∧ 1 ≤ qn ∧ qn ≤ 110880 ∧ TuS w B gm go (some ⟨bO, oO, none⟩) c1 A2 c2 os q vs A3 c3 ps qn wx)
        case first =>
          cases bv with
          | true =>
            have hb1 := hT.b1
            have hbo := hT.out
            have j0 := hb1.cell 0
            have j1 := hb1.cell 1
            have j2 := hb1.cell 2
            have r0 := hbo.cell 0
            have r1 := hbo.cell 1
            have r2 := hbo.cell 2
            have f0 := hbo.frozen 0
            have f1 := hbo.frozen 1
            have f2 := hbo.frozen 2
            have hw : IntKind.i64.wrap (2 * q) = 2 * q := wrap_in (by omega) (by omega)
            go_wp2_with fail
            go_meet
            exact ⟨2, 2 * q, rfl, by omega, by omega, by omega, by omega, hT.setq hBgo (by omega) _⟩
          | false =>
            go_wp2_with fail
            go_meet
            exact ⟨1, q, rfl, by omega, by omega, by omega, by omega, hT⟩
        case rest =>
          clear hT
          obtain ⟨fv, qn, rfl, f1, f2, q3, q4, hT⟩ := hcut
          rename World => w12
          have hb1 := hT.b1
          have hI : MetIn w12 B w.heap.size go (.slice A3 ps.length c3) ps qn (.slice none 0 0) [] w12 := ⟨hT.t1, hT.o3, hT.out, Ow.nil _ _, fun b hb => by simp [Value.ownBlock], Below.refl _ _⟩
          have hBz := hT.hi
          have hkk := hT.kk
          have s1 := hT.s1
          have s2 := hT.s2
          have ht2 := hT.t2
          have j0 := hb1.cell 0
          have j1 := hb1.cell 1
          have j2 := hb1.cell 2
          clear hT
          go_wp2_with fail
          go_loopw [11] (fun x wr => ∃ (k : Nat) (vv : Value) (xs : List Int), k ≤ N ∧ x = .int .i64 k ∧ xs.length = k ∧ (∀ y ∈ xs, i64ok y) ∧ MetIn w12 B w.heap.size go (.slice A3 ps.length c3) ps qn vv xs wr) (fun x _ => N - (intOf x).toNat)
          case atStart => exact ⟨0, _, [], by omega, rfl, rfl, by simp, hI⟩
          case round =>
            clear hI
            obtain ⟨k, vv, xs, hk, rfl, hlen, hr, hI⟩ := hrel
            have HL := hide hlen
            have HR1 := hide hr
            clear hlen hr
            have hwz := Nat.le_trans hBz hI.below.size
            have s3 := hI.ords.slOf HPR.out
            go_wp2_with fail
            refine (l10Size_any _ _ _ _ _ _ s3 HPK.out).mono ?_
            rw [HNN.out]
            rintro e w13 ⟨rfl, m, hm⟩
            replace hI := hI.drewN m
            rw [← hm] at hI
            replace hwz : B ≤ w13.heap.size := Nat.le_trans hBz hI.below.size
            clear hm s3
            by_cases hlt : k < N
            · have s3 := hI.ords.slOf HPR.out
              go_wp2_with fail
              refine (l10Digits_any _ _ _ _ _ _ _ s3 (Nat.le_refl _) HPK.out (by omega) (by omega)).mono ?_
              rintro e w14 ⟨v, rfl, hO5, hb5⟩
              replace hI := hI.all hb5 hwz
              replace hwz : B ≤ w14.heap.size := Nat.le_trans hBz hI.below.size
              have htl : (Dg ps (k : Int)).length = os.length := by rw [Dg_length]; exact HP4.out
              obtain ⟨A5, c5, rfl, gt⟩ := hO5.sl (gi_all fun j hj => by
                rw [Dg_length] at hj
                have := Dg_rng HPK.out (x := (k : Int)) (by omega) hj
                have := HPK.out.m16 _ (gi_mem hj)
                exact ⟨by omega, by omega⟩)
              rw [htl] at gt ⊢
              have Hbk := hide (show tuL (os.length - tu) (Dg ps (k : Int)) = bkL tu os k by unfold bkL; rw [HPS.out])
              obtain ⟨ds, hds⟩ : ∃ ds, Dg ps (k : Int) = ds := ⟨_, rfl⟩
              rw [hds] at gt Hbk htl
              have HTL := hide htl
              clear hds htl hO5 hb5 s3
              have hrl : os.length - tu ≤ os.length := by omega
              have e1 : IntKind.i64.wrap ((os.length : Int) - (tu : Int)) = ((os.length - tu : Nat) : Int) := (wrap_in (by omega) (by omega)).trans (by omega)
              obtain ⟨r, hr⟩ : ∃ r, os.length - tu = r := ⟨_, rfl⟩
              rw [hr] at Hbk hrl e1
              clear hr
              go_upto_region 17 with fail
              go_cut [13] (fun b wx => ∃ A6 c6, b = .slice A6 os.length c6 ∧ Sl wx wx.heap.size A6 os.length c6 (bkL tu os k) ∧ MetIn w12 B w.heap.size go (.slice A3 ps.length c3) ps qn vv xs wx)
              case first =>
                obtain ⟨b5, o5, rfl, hb5, hc5⟩ := gt.at_ (by omega)
                clear hc5
                have hcap := gt.cap
                have q1 : (r : Int) ≤ (os.length : Int) := by omega
                have q4 : (r : Int) ≤ (c5 : Int) := by omega
                have q5 : r ≤ c5 := by omega
                by_cases hcr : c5 = r
                · have hcr' := hcr.symm
                  clear hcr
                  subst hcr'
                  have hr0 : os.length - r = 0 := by omega
                  refine wp_region_be [0, 1, 2, 3, 4, 6, 7, 8, 9, 10, 5, 11, 12] 12 w14.heap.size w14 (by kernel_rfl) (by kernel_rfl) (by kernel_rfl) (fun _ _ _ _ _ h => h) (Below.refl _ _) (fun wd hBe => ?_)
                  repeat (first | (apply ord_tk rfl (by rfl) (by rfl) (by rfl); (focus (intro wx hSw; skip; go_simp; (try with_reducible rfl))); (try simp only [Act.put, List.setIfInBounds_toArray, List.set_cons_zero, List.set_cons_succ])) | (apply ord_skip rfl (by rfl) (by rfl) (fun _ => hBe); (try simp only [Act.put, List.setIfInBounds_toArray, List.set_cons_zero, List.set_cons_succ])))
                  have sT := gt.tailC r hrl
                  rw [if_pos rfl, Nat.sub_self, hr0] at sT
                  have sH := gt.headC r hrl
                  refine ord_do rfl (by rfl) (by rfl) (fun K hK => ?_)
                  go_simp
                  refine (l01Own_any _ _ _ _ _ _ (sT.below hBe) hBe.size (by omega)).mono ?_
                  rintro e w15 ⟨v6, rfl, hO, hb7⟩
                  have z7 := hBe.size
                  replace hBe := hBe.trans (hb7.mono hBe.size)
                  refine hK.out _ _ (fun _ => hBe) ?_
                  (try simp only [Act.put, List.setIfInBounds_toArray, List.set_cons_zero, List.set_cons_succ])
                  clear hK K
                  repeat (first | (apply ord_tk rfl (by rfl) (by rfl) (by rfl); (focus (intro wx hSw; skip; go_simp; (try with_reducible rfl))); (try simp only [Act.put, List.setIfInBounds_toArray, List.set_cons_zero, List.set_cons_succ])) | (apply ord_skip rfl (by rfl) (by rfl) (fun _ => hBe); (try simp only [Act.put, List.setIfInBounds_toArray, List.set_cons_zero, List.set_cons_succ])))
                  refine ord_do rfl (by rfl) (by rfl) (fun K hK => ?_)
                  refine wp_app w15 _ _ rfl wd.heap.size v6 (ds.drop r) rfl hO w14.heap.size _ _ _ (ds.take r) rfl (sH.below hBe) (by have := HTL.out; simp; omega) (by have := hb7.size; omega) ?_
                  intro v7 w16 hA
                  have hB8 := hA.below hO (by have := hb7.size; omega)
                  replace hBe := hBe.trans (hB8.mono z7)
                  have hO8 := hA.own
                  refine hK.out _ _ (fun _ => hBe) ?_
                  (try simp only [Act.put, List.setIfInBounds_toArray, List.set_cons_zero, List.set_cons_succ])
                  clear hK K
                  repeat (first | (apply ord_tk rfl (by rfl) (by rfl) (by rfl); (focus (intro wx hSw; skip; go_simp; (try with_reducible rfl))); (try simp only [Act.put, List.setIfInBounds_toArray, List.set_cons_zero, List.set_cons_succ])) | (apply ord_skip rfl (by rfl) (by rfl) (fun _ => hBe); (try simp only [Act.put, List.setIfInBounds_toArray, List.set_cons_zero, List.set_cons_succ])))
                  refine ord_do rfl (by rfl) (by rfl) (fun K hK => ?_)
                  go_simp
                  refine hK.out _ _ (fun h => absurd h (by omega)) ?_
                  (try simp only [Act.put, List.setIfInBounds_toArray, List.set_cons_zero, List.set_cons_succ])
                  clear hK K
                  refine ord_nil ?_
                  obtain ⟨A6, c6, rfl, s6⟩ := hO8.sl (fun x hx => by
                    rcases List.mem_append.1 hx with h | h
                    · exact gt.rng x (List.mem_of_mem_drop h)
                    · exact gt.rng x (List.mem_of_mem_take h))
                  have h9 : (ds.drop r ++ ds.take r).length = os.length := by have := HTL.out; simp; omega
                  rw [h9] at s6
                  go_wp2_with fail
                  go_meet
                  exact ⟨A6, c6, by rw [h9], by rw [← Hbk.out]; exact s6, hI.all hBe hwz⟩
                · have q2 : ¬ c5 - r = 0 := by omega
                  have q3 : ¬ (c5 : Int) - (r : Int) = 0 := by omega
                  refine wp_region_be [0, 1, 2, 3, 4, 6, 7, 8, 9, 10, 5, 11, 12] 12 w14.heap.size w14 (by kernel_rfl) (by kernel_rfl) (by kernel_rfl) (fun _ _ _ _ _ h => h) (Below.refl _ _) (fun wd hBe => ?_)
                  repeat (first | (apply ord_tk rfl (by rfl) (by rfl) (by rfl); (focus (intro wx hSw; skip; go_simp; (try with_reducible rfl))); (try simp only [Act.put, List.setIfInBounds_toArray, List.set_cons_zero, List.set_cons_succ])) | (apply ord_skip rfl (by rfl) (by rfl) (fun _ => hBe); (try simp only [Act.put, List.setIfInBounds_toArray, List.set_cons_zero, List.set_cons_succ])))
                  have sT := gt.tailC r hrl
                  rw [if_neg hcr] at sT
                  have sH := gt.headC r hrl
                  refine ord_do rfl (by rfl) (by rfl) (fun K hK => ?_)
                  go_simp
                  refine (l01Own_any _ _ _ _ _ _ (sT.below hBe) hBe.size (by omega)).mono ?_
                  rintro e w15 ⟨v6, rfl, hO, hb7⟩
                  have z7 := hBe.size
                  replace hBe := hBe.trans (hb7.mono hBe.size)
                  refine hK.out _ _ (fun _ => hBe) ?_
                  (try simp only [Act.put, List.setIfInBounds_toArray, List.set_cons_zero, List.set_cons_succ])
                  clear hK K
                  repeat (first | (apply ord_tk rfl (by rfl) (by rfl) (by rfl); (focus (intro wx hSw; skip; go_simp; (try with_reducible rfl))); (try simp only [Act.put, List.setIfInBounds_toArray, List.set_cons_zero, List.set_cons_succ])) | (apply ord_skip rfl (by rfl) (by rfl) (fun _ => hBe); (try simp only [Act.put, List.setIfInBounds_toArray, List.set_cons_zero, List.set_cons_succ])))
                  refine ord_do rfl (by rfl) (by rfl) (fun K hK => ?_)
                  refine wp_app w15 _ _ rfl wd.heap.size v6 (ds.drop r) rfl hO w14.heap.size _ _ _ (ds.take r) rfl (sH.below hBe) (by have := HTL.out; simp; omega) (by have := hb7.size; omega) ?_
                  intro v7 w16 hA
                  have hB8 := hA.below hO (by have := hb7.size; omega)
                  replace hBe := hBe.trans (hB8.mono z7)
                  have hO8 := hA.own
                  refine hK.out _ _ (fun _ => hBe) ?_
                  (try simp only [Act.put, List.setIfInBounds_toArray, List.set_cons_zero, List.set_cons_succ])
                  clear hK K
                  repeat (first | (apply ord_tk rfl (by rfl) (by rfl) (by rfl); (focus (intro wx hSw; skip; go_simp; (try with_reducible rfl))); (try simp only [Act.put, List.setIfInBounds_toArray, List.set_cons_zero, List.set_cons_succ])) | (apply ord_skip rfl (by rfl) (by rfl) (fun _ => hBe); (try simp only [Act.put, List.setIfInBounds_toArray, List.set_cons_zero, List.set_cons_succ])))
                  refine ord_do rfl (by rfl) (by rfl) (fun K hK => ?_)
                  go_simp
                  refine hK.out _ _ (fun h => absurd h (by omega)) ?_
                  (try simp only [Act.put, List.setIfInBounds_toArray, List.set_cons_zero, List.set_cons_succ])
                  clear hK K
                  refine ord_nil ?_
                  obtain ⟨A6, c6, rfl, s6⟩ := hO8.sl (fun x hx => by
                    rcases List.mem_append.1 hx with h | h
                    · exact gt.rng x (List.mem_of_mem_drop h)
                    · exact gt.rng x (List.mem_of_mem_take h))
                  have h9 : (ds.drop r ++ ds.take r).length = os.length := by have := HTL.out; simp; omega
                  rw [h9] at s6
                  go_wp2_with fail
                  go_meet
                  exact ⟨A6, c6, by rw [h9], by rw [← Hbk.out]; exact s6, hI.all hBe hwz⟩
              case rest =>
                clear hI gt hwz
                obtain ⟨A6, c6, rfl, s6, hI⟩ := hcut
                rename World => w17
                have hwz : B ≤ w17.heap.size := Nat.le_trans hBz hI.below.size
                have hel := elB_rng HIM.out.ok.g (t := tu) (by omega) (x := (k : Int)) (by omega)
                obtain ⟨e, he⟩ : ∃ e : Nat, elB tu os k = e := ⟨(elB tu os k).toNat, by omega⟩
                rw [he] at hel
                have hev : e < vs.length := by have := HIM.out.ok.len; omega
                have HE := hide (show elR os.reverse (bkL tu os k).reverse = (e : Int) from he)
                obtain ⟨b2, o2, rfl, hb2, hc2⟩ := s2.at_ (by omega)
                have cx := hc2 e hev
                have hv := HIM.out.ok.rng _ (gi_mem hev)
                obtain ⟨v, ev⟩ : ∃ v, gi vs e = v := ⟨_, rfl⟩
                rw [ev] at cx hv
                clear ev hc2 he hel
                obtain ⟨y, hy⟩ : ∃ y, v * fv = y := ⟨_, rfl⟩
                have hyb : 0 ≤ y ∧ y ≤ 110880 := by
                  rcases (show fv = 1 ∨ fv = 2 by omega) with h | h <;> rw [h] at hy <;> omega
                have t1 : IntKind.i64.wrap (v * fv) = y := by rw [hy]; exact wrap_in (by omega) (by omega)
                have hevi : (e : Int) < (vs.length : Int) := by omega
                clear hy
                have HRX := hide (show ∀ wx, Below B w12 wx → (wx.cell? ⟨gm, 0, none⟩ = some (.slice (some ⟨bO, oO, none⟩) os.length c1) ∧ wx.cell? ⟨gm, 1, none⟩ = some (.int .i64 q) ∧ wx.cell? ⟨gm, 2, none⟩ = some (.slice (some ⟨b2, o2, none⟩) vs.length c2)) ∧ wx.cell? ⟨b2, o2 + e, none⟩ = some (.int .i64 v) from fun wx h => ⟨⟨(h.cell (p := ⟨gm, 0, none⟩) hgmB).trans j0, (h.cell (p := ⟨gm, 1, none⟩) hgmB).trans j1, (h.cell (p := ⟨gm, 2, none⟩) hgmB).trans j2⟩, (h.cell (p := ⟨b2, o2 + e, none⟩) hb2).trans cx⟩)
                go_wp2_with fail
                refine wp_region_ord [0, 1, 2, 3, 4, 5, 6, 10, 7, 8, 9, 11, 12, 13, 14, 15] 14 (fun w' => (w'.cell? ⟨go, 0, none⟩ = some (.slice A3 ps.length c3) ∧ w'.cell? ⟨go, 1, none⟩ = some (.int .i64 qn) ∧ w'.cell? ⟨go, 2, none⟩ = some vv) ∧ (w'.cell? ⟨gm, 0, none⟩ = some (.slice (some ⟨bO, oO, none⟩) os.length c1) ∧ w'.cell? ⟨gm, 1, none⟩ = some (.int .i64 q) ∧ w'.cell? ⟨gm, 2, none⟩ = some (.slice (some ⟨b2, o2, none⟩) vs.length c2)) ∧ w'.cell? ⟨b2, o2 + e, none⟩ = some (.int .i64 v)) (by kernel_rfl) (by kernel_rfl) (by kernel_rfl) (fun _ _ _ _ _ h => h) ⟨hI.reads, HRX.out _ hI.below.drew⟩ ?_
                repeat (apply ord_take rfl (by rfl) (by rfl); (focus (intro w hSw; (try dsimp only at hSw); go_simp; (try with_reducible rfl))); (try simp only [Act.put, List.setIfInBounds_toArray, List.set_cons_zero, List.set_cons_succ]))
                have s1x : Sl w17.drew w17.heap.size (some ⟨bO, oO, none⟩) os.length c1 os := ((s1.below hI.below).more hwz).drew
                refine ord_do rfl (by rfl) (by rfl) (fun K hK => ?_)
                go_simp
                refine (l10Element_any _ _ _ _ _ _ _ _ _ s1x s6.drew HIM.out.ok.g (bk_rng HIM.out.ok.g (t := tu) (by omega) (x := (k : Int)) (by omega))).mono ?_
                rw [HE.out]
                rintro e' w18 ⟨rfl, dm, hdm⟩
                have hI1 := hI.drew.drewN dm
                rw [← hdm] at hI1
                clear hdm s1x
                have hwz1 : B ≤ w18.heap.size := Nat.le_trans hBz hI1.below.size
                refine hK.out _ _ (fun _ => ⟨hI1.reads, HRX.out _ hI1.below⟩) ?_
                (try simp only [Act.put, List.setIfInBounds_toArray, List.set_cons_zero, List.set_cons_succ])
                clear hK K
                repeat (apply ord_take rfl (by rfl) (by rfl); (focus (intro w hSw; (try dsimp only at hSw); go_simp; (try with_reducible rfl))); (try simp only [Act.put, List.setIfInBounds_toArray, List.set_cons_zero, List.set_cons_succ]))
                refine ord_do rfl (by rfl) (by rfl) (fun K hK => ?_)
                go_simp
                have hJ := hI1.alloc hwz1 (.cells #[.int .i64 y] 2)
                refine hK.out _ _ (fun _ => ⟨hJ.reads, HRX.out _ hJ.below⟩) ?_
                (try simp only [Act.put, List.setIfInBounds_toArray, List.set_cons_zero, List.set_cons_succ])
                clear hK K
                refine ord_do rfl (by rfl) (by rfl) (fun K hK => ?_)
                refine wp_push _ _ _ (by rfl) B vv xs (by rfl) hJ.vals _ w18.heap.size _ (by rfl) (Blk.new _ _ _) (by rw [HL.out]; omega) (by simp; omega) (by simp) ?_
                intro g2 cap w19 hP
                have o2' := hJ.pushed hP
                have hK2 := hJ.below.trans (hP.below hJ.vals (by simp; omega))
                refine hK.out _ _ (fun _ => ⟨⟨o2'.cell 0, o2'.cell 1, o2'.cell 2⟩, HRX.out _ hK2⟩) ?_
                (try simp only [Act.put, List.setIfInBounds_toArray, List.set_cons_zero, List.set_cons_succ])
                clear hK K
                refine ord_do rfl (by rfl) (by rfl) (fun K hK => ?_)
                go_simp
                refine hK.out _ _ (fun h => absurd h (by omega)) ?_
                (try simp only [Act.put, List.setIfInBounds_toArray, List.set_cons_zero, List.set_cons_succ])
                clear hK K
                have c2' := o2'.cell 2
                have f2' := o2'.frozen 2
                refine ord_do rfl (by rfl) (by rfl) (fun K hK => ?_)
                go_simp
                refine hK.out _ _ (fun h => absurd h (by omega)) ?_
                (try simp only [Act.put, List.setIfInBounds_toArray, List.set_cons_zero, List.set_cons_succ])
                clear hK K
                refine ord_nil ?_
                clear t1
                go_wp2
                go_roundw
                case rel => exact ⟨k + 1, _, xs ++ [y], by omega, by go_num, by simp [HL.out], fun z hz => by rcases List.mem_append.1 hz with h | h; exact HR1.out z h; rw [List.mem_singleton.1 h]; exact ⟨by omega, by omega⟩, hJ.step hP (by simp; omega) (by omega) hBgo (hI1.ordsNe (by omega))⟩
                case measure => simp [intOf]; omega
            · obtain rfl : k = N := by omega
              obtain ⟨A4, c4, rfl, s4⟩ := hI.vals.sl HR1.out
              have lf1 : LoB B A3 ps.length := hI.ords.loB
              have lf2 : LoB B A4 xs.length := hI.vals.loB
              have b1 := hb1.below hI.below hgmB
              have t1 := hI.res
              have t2 := ht2.below hI.below hRB
              have bo := hI.out
              have a1 : SlS w13 S (some ⟨bO, oO, none⟩) os.length c1 os := ⟨(s1.below hI.below).more hwz, hne1⟩
              have a2 : SlS w13 S A2 vs.length c2 vs := ⟨(s2.below hI.below).more hwz, hne2⟩
              have e1 : SlS w13 S A3 ps.length c3 ps := ⟨hI.ords.slOf HPR.out, fun b off sp e hn => by have := lf1 b off sp e hn; omega⟩
              have e2 : SlS w13 S A4 xs.length c4 xs := ⟨s4, fun b off sp e hn => by have := lf2 b off sp e hn; omega⟩
              have hG2 : GenM ps qn xs := ⟨by omega, by rw [HL.out]; omega, ⟨by omega, by omega⟩⟩
              have k6 : Below w.heap.size w w13 := hkk.trans (hI.below.mono (by omega))
              have hrd := hI.reads
              clear hI s1 s2 ht2 s4 hkk hb1 j0 j1 j2
              have j0 := b1.cell 0
              have j1 := b1.cell 1
              have j2 := b1.cell 2
              go_wp2_with fail
              refine wp_region_ord [0, 1, 2, 3] 3 (fun wx => (wx.cell? ⟨gm, 0, none⟩ = some (.slice (some ⟨bO, oO, none⟩) (List.length os) c1) ∧ wx.cell? ⟨gm, 1, none⟩ = some (.int .i64 q) ∧ wx.cell? ⟨gm, 2, none⟩ = some (.slice A2 (List.length vs) c2)) ∧ wx.cell? ⟨go, 0, none⟩ = some (.slice A3 (List.length ps) c3) ∧ wx.cell? ⟨go, 1, none⟩ = some (.int .i64 qn) ∧ wx.cell? ⟨go, 2, none⟩ = some (.slice A4 (List.length xs) c4)) (by kernel_rfl) (by kernel_rfl) (by kernel_rfl) (fun _ _ _ _ _ h => h) ⟨⟨j0, j1, j2⟩, hrd⟩ ?_
              repeat (apply ord_take rfl (by rfl) (by rfl); (focus (intro w hSw; (try dsimp only at hSw); go_simp; (try with_reducible rfl))); (try simp only [Act.put, List.setIfInBounds_toArray, List.set_cons_zero, List.set_cons_succ]))
              have gD := drew_gr w13 (some S)
              replace b1 := b1.drew
              replace t1 := t1.drew
              replace t2 := t2.drew
              replace bo := bo.drew
              replace a1 := a1.grown gD
              replace a2 := a2.grown gD
              replace e1 := e1.grown gD
              replace e2 := e2.grown gD
              replace k6 := k6.drew
              clear j0 j1 j2 gD hrd
              obtain ⟨w6, hw6⟩ : ∃ w6, w13.drew = w6 := ⟨_, rfl⟩
              rw [hw6] at b1 t1 t2 bo a1 a2 e1 e2 k6 ⊢
              clear hw6
              have n1 := put3_far (x := .slice (some ⟨bO, oO, none⟩) (List.length os) c1) (y := .int .i64 q) (z := .slice A2 (List.length vs) c2) b1 (show gm ≠ w.heap.size by omega)
              have n2 := put3_far (x := .slice (some ⟨bO, oO, none⟩) (List.length os) c1) (y := .int .i64 q) (z := .slice A2 (List.length vs) c2) t2 (show w.heap.size + 1 ≠ w.heap.size by omega)
              have n3 := put3_blk (x := .slice (some ⟨bO, oO, none⟩) (List.length os) c1) (y := .int .i64 q) (z := .slice A2 (List.length vs) c2) t1
              have n4 := slS_low (x := .slice (some ⟨bO, oO, none⟩) (List.length os) c1) (y := .int .i64 q) (z := .slice A2 (List.length vs) c2) a1 l1 (show w.heap.size < w1.heap.size by omega)
              have n5 := slS_low (x := .slice (some ⟨bO, oO, none⟩) (List.length os) c1) (y := .int .i64 q) (z := .slice A2 (List.length vs) c2) a2 l2 (show w.heap.size < w1.heap.size by omega)
              have n6 := slS_low (x := .slice (some ⟨bO, oO, none⟩) (List.length os) c1) (y := .int .i64 q) (z := .slice A2 (List.length vs) c2) e1 lf1 (show w.heap.size < B by omega)
              have n7 := slS_low (x := .slice (some ⟨bO, oO, none⟩) (List.length os) c1) (y := .int .i64 q) (z := .slice A2 (List.length vs) c2) e2 lf2 (show w.heap.size < B by omega)
              have n9 := put3_far (x := .slice (some ⟨bO, oO, none⟩) (List.length os) c1) (y := .int .i64 q) (z := .slice A2 (List.length vs) c2) bo (show go ≠ w.heap.size by omega)
              have n8 := put3_below (x := .slice (some ⟨bO, oO, none⟩) (List.length os) c1) (y := .int .i64 q) (z := .slice A2 (List.length vs) c2) k6 (Nat.le_refl _)
              obtain ⟨W7, hW7⟩ : ∃ W7, put3 w6 w.heap.size (.slice (some ⟨bO, oO, none⟩) (List.length os) c1) (.int .i64 q) (.slice A2 (List.length vs) c2) = W7 := ⟨_, rfl⟩
              have r0 := t1.cell 0
              have r1 := t1.cell 1
              have r2 := t1.cell 2
              have f0 := t1.frozen 0
              have f1 := t1.frozen 1
              have f2 := t1.frozen 2
              rw [hW7] at n1 n2 n3 n4 n5 n6 n7 n8 n9
              unfold put3 at hW7
              refine ord_do rfl (by rfl) (by rfl) (fun K hK => ?_)
              go_simp
              refine hK.out _ _ (fun _ => ⟨⟨n1.cell 0, n1.cell 1, n1.cell 2⟩, n9.cell 0, n9.cell 1, n9.cell 2⟩) ?_
              (try simp only [Act.put, List.setIfInBounds_toArray, List.set_cons_zero, List.set_cons_succ])
              clear hK K
              clear r0 r1 r2 f0 f1 f2 hW7
              have r0 := n2.cell 0
              have r1 := n2.cell 1
              have r2 := n2.cell 2
              have f0 := n2.frozen 0
              have f1 := n2.frozen 1
              have f2 := n2.frozen 2
              refine ord_do rfl (by rfl) (by rfl) (fun K hK => ?_)
              go_simp
              refine hK.out _ _ (fun h => absurd h (by omega)) ?_
              (try simp only [Act.put, List.setIfInBounds_toArray, List.set_cons_zero, List.set_cons_succ])
              clear hK K
              refine ord_nil ?_
              have m1 := put3_blk (x := .slice A3 (List.length ps) c3) (y := .int .i64 qn) (z := .slice A4 (List.length xs) c4) n2
              have m2 := put3_far (x := .slice A3 (List.length ps) c3) (y := .int .i64 qn) (z := .slice A4 (List.length xs) c4) n3 (show w.heap.size ≠ w.heap.size + 1 by omega)
              go_wp2_with fail
              have q0 := m1.cell 0
              have q1 := m1.cell 1
              have q2 := m1.cell 2
              have p0 := m2.cell 0
              have p1 := m2.cell 1
              have p2 := m2.cell 2
              unfold put3 at q0 q1 q2 p0 p1 p2
              refine bodyPost_ret (v := .tuple #[.agg #[.slice (some ⟨bO, oO, none⟩) (List.length os) c1, .int .i64 q, .slice A2 (List.length vs) c2], .agg #[.slice A3 (List.length ps) c3, .int .i64 qn, .slice A4 (List.length xs) c4]]) (by simp [results, Tryz.results22, go_sem, q0, q1, q2, p0, p1, p2]) rfl ?_
              exact ⟨(some ⟨bO, oO, none⟩), c1, A2, c2, os, q, vs, A3, c3, A4, c4, ps, qn, xs, rfl, hG, hG2, slS_out n4 l1 (show w.heap.size + 1 < w1.heap.size by omega), slS_out n5 l2 (show w.heap.size + 1 < w1.heap.size by omega), slS_out n6 lf1 (show w.heap.size + 1 < B by omega), slS_out n7 lf2 (show w.heap.size + 1 < B by omega), ⟨l1.less (show w.heap.size ≤ w1.heap.size by omega), l2.less (show w.heap.size ≤ w1.heap.size by omega), lf1.less (show w.heap.size ≤ B by omega), lf2.less (show w.heap.size ≤ B by omega)⟩, put3_below n8 (by omega)⟩
set_option maxRecDepth 100000 in
set_option maxHeartbeats 8000000 in
theorem drawIso_any (w : World) (A : Option Addr) (n c : Nat) (bs : List Int) (hb : SlB w w.heap.size A n c bs) (hn : n ≤ 4096) : Calls Tryz.prog 5 #[.slice A n c] w (DTwo w) := by
  go_enter Tryz.func5, Tryz.ntmps5
  obtain ⟨W0, hW0⟩ : ∃ W0, (w.alloc (.cells #[.slice none 0 0, .int .i64 0, .slice none 0 0] 26)).alloc (.cells #[.slice none 0 0, .int .i64 0, .slice none 0 0] 26) = W0 := ⟨_, rfl⟩
  have t1 : Blk W0 w.heap.size 26 #[.slice none 0 0, .int .i64 0, .slice none 0 0] := by rw [← hW0]; exact (Blk.new _ _ _).alloc _
  have t2 : Blk W0 (w.heap.size + 1) 26 #[.slice none 0 0, .int .i64 0, .slice none 0 0] := by rw [← hW0]; exact Blk.new' _ _ _ _ (by simp)
  have k0 : Below w.heap.size w W0 := by rw [← hW0]; exact (by repeat (first | assumption | exact Below.refl _ _ | apply below_drewN | apply Below.drew | apply Below.alloc | apply Below.setCell | omega | (focus (simp; done)) | (focus (simp; omega))))
  have z0 : w.heap.size + 2 = W0.heap.size := by rw [← hW0]; simp
  have hb0 : SlB W0 W0.heap.size A n c bs := ⟨hb.len, hb.cap, hb.rng, fun h => by
    obtain ⟨b, off, e, hlt, hc⟩ := hb.at_ h
    exact ⟨b, off, e, by omega, fun k hk => (k0.cell (p := ⟨b, off + k, none⟩) hlt).trans (hc k hk)⟩⟩
  go_wp2_with fail
  clear hW0
  refine (l10Two_any W0 A n c bs hb0 hn).mono ?_
  rintro e w2 ⟨A1, c1, A2, c2, os, q, vs, E1, d1, E2, d2, ps, y, us, rfl, hG1, hG2, s1, s2, s3, s4, ⟨l1, l2, l3, l4⟩, hb2⟩
  have hz2 := hb2.size
  replace t1 := t1.all hb2
  replace t2 := t2.all hb2
  have k2 := k0.trans (hb2.mono (show w.heap.size ≤ W0.heap.size by omega))
  clear hb2 hb0 hb k0
  go_wp2_with fail
  obtain ⟨wa, gm, hgm, hwa, hBa, _, b1, _⟩ := be_alloc (Below.refl w2.heap.size w2) 26 #[.slice A1 os.length c1, .int .i64 q, .slice A2 vs.length c2]
  obtain ⟨wb, go, hgo, hwb, hBb, _, bo, _⟩ := be_alloc (Below.refl wa.heap.size wa) 26 #[.slice E1 ps.length d1, .int .i64 y, .slice E2 us.length d2]
  have hza := hBa.size
  replace t1 := (t1.all hBa).all hBb
  replace t2 := (t2.all hBa).all hBb
  replace b1 := b1.all hBb
  have hab : Below w2.heap.size w2 wb := hBa.trans (hBb.mono hza)
  have a1 : SlS wb w.heap.size A1 os.length c1 os := ⟨(s1.below hab).more hab.size, fun b off sp e hn => by have := l1 b off sp e hn; omega⟩
  have a2 : SlS wb w.heap.size A2 vs.length c2 vs := ⟨(s2.below hab).more hab.size, fun b off sp e hn => by have := l2 b off sp e hn; omega⟩
  have e1 : SlS wb w.heap.size E1 ps.length d1 ps := ⟨(s3.below hab).more hab.size, fun b off sp e hn => by have := l3 b off sp e hn; omega⟩
  have e2 : SlS wb w.heap.size E2 us.length d2 us := ⟨(s4.below hab).more hab.size, fun b off sp e hn => by have := l4 b off sp e hn; omega⟩
  have k6 : Below w.heap.size w wb := k2.trans (hab.mono (by omega))
  have hgz : w.heap.size + 1 < gm := by omega
  have hgoz : w.heap.size + 1 < go := by omega
  clear s1 s2 s3 s4 hab hBa hBb k2
  have hgo1 : w2.heap.size + 1 = go := by rw [← hgo, ← hwa]; simp
  rw [hwa, hwb, hgo1, hgm]
  clear hwa hwb
  have j0 := b1.cell 0
  have j1 := b1.cell 1
  have j2 := b1.cell 2
  have p0 := bo.cell 0
  have p1 := bo.cell 1
  have p2 := bo.cell 2
  refine wp_region_ord [0, 1, 2, 3] 3 (fun wx => (wx.cell? ⟨gm, 0, none⟩ = some (.slice A1 (List.length os) c1) ∧ wx.cell? ⟨gm, 1, none⟩ = some (.int .i64 q) ∧ wx.cell? ⟨gm, 2, none⟩ = some (.slice A2 (List.length vs) c2)) ∧ wx.cell? ⟨go, 0, none⟩ = some (.slice E1 (List.length ps) d1) ∧ wx.cell? ⟨go, 1, none⟩ = some (.int .i64 y) ∧ wx.cell? ⟨go, 2, none⟩ = some (.slice E2 (List.length us) d2)) (by kernel_rfl) (by kernel_rfl) (by kernel_rfl) (fun _ _ _ _ _ h => h) ⟨⟨j0, j1, j2⟩, p0, p1, p2⟩ ?_
  repeat (apply ord_take rfl (by rfl) (by rfl); (focus (intro w hSw; (try dsimp only at hSw); go_simp; (try with_reducible rfl))); (try simp only [Act.put, List.setIfInBounds_toArray, List.set_cons_zero, List.set_cons_succ]))
  have gD := drew_gr wb (some w.heap.size)
  replace b1 := b1.drew
  replace t1 := t1.drew
  replace t2 := t2.drew
  replace bo := bo.drew
  replace a1 := a1.grown gD
  replace a2 := a2.grown gD
  replace e1 := e1.grown gD
  replace e2 := e2.grown gD
  replace k6 := k6.drew
  clear j0 j1 j2 p0 p1 p2 gD
  obtain ⟨w6, hw6⟩ : ∃ w6, wb.drew = w6 := ⟨_, rfl⟩
  rw [hw6] at b1 t1 t2 bo a1 a2 e1 e2 k6 ⊢
  clear hw6
  have n1 := put3_far (x := .slice A1 (List.length os) c1) (y := .int .i64 q) (z := .slice A2 (List.length vs) c2) b1 (show gm ≠ w.heap.size by omega)
  have n2 := put3_far (x := .slice A1 (List.length os) c1) (y := .int .i64 q) (z := .slice A2 (List.length vs) c2) t2 (show w.heap.size + 1 ≠ w.heap.size by omega)
  have n3 := put3_blk (x := .slice A1 (List.length os) c1) (y := .int .i64 q) (z := .slice A2 (List.length vs) c2) t1
  have n4 := slS_low (x := .slice A1 (List.length os) c1) (y := .int .i64 q) (z := .slice A2 (List.length vs) c2) a1 l1 (show w.heap.size < W0.heap.size by omega)
  have n5 := slS_low (x := .slice A1 (List.length os) c1) (y := .int .i64 q) (z := .slice A2 (List.length vs) c2) a2 l2 (show w.heap.size < W0.heap.size by omega)
  have n6 := slS_low (x := .slice A1 (List.length os) c1) (y := .int .i64 q) (z := .slice A2 (List.length vs) c2) e1 l3 (show w.heap.size < W0.heap.size by omega)
  have n7 := slS_low (x := .slice A1 (List.length os) c1) (y := .int .i64 q) (z := .slice A2 (List.length vs) c2) e2 l4 (show w.heap.size < W0.heap.size by omega)
  have n9 := put3_far (x := .slice A1 (List.length os) c1) (y := .int .i64 q) (z := .slice A2 (List.length vs) c2) bo (show go ≠ w.heap.size by omega)
  have n8 := put3_below (x := .slice A1 (List.length os) c1) (y := .int .i64 q) (z := .slice A2 (List.length vs) c2) k6 (Nat.le_refl _)
  obtain ⟨W7, hW7⟩ : ∃ W7, put3 w6 w.heap.size (.slice A1 (List.length os) c1) (.int .i64 q) (.slice A2 (List.length vs) c2) = W7 := ⟨_, rfl⟩
  have r0 := t1.cell 0
  have r1 := t1.cell 1
  have r2 := t1.cell 2
  have f0 := t1.frozen 0
  have f1 := t1.frozen 1
  have f2 := t1.frozen 2
  rw [hW7] at n1 n2 n3 n4 n5 n6 n7 n8 n9
  unfold put3 at hW7
  refine ord_do rfl (by rfl) (by rfl) (fun K hK => ?_)
  go_simp
  refine hK.out _ _ (fun _ => ⟨⟨n1.cell 0, n1.cell 1, n1.cell 2⟩, n9.cell 0, n9.cell 1, n9.cell 2⟩) ?_
  (try simp only [Act.put, List.setIfInBounds_toArray, List.set_cons_zero, List.set_cons_succ])
  clear hK K
  clear r0 r1 r2 f0 f1 f2 hW7
  have r0 := n2.cell 0
  have r1 := n2.cell 1
  have r2 := n2.cell 2
  have f0 := n2.frozen 0
  have f1 := n2.frozen 1
  have f2 := n2.frozen 2
  refine ord_do rfl (by rfl) (by rfl) (fun K hK => ?_)
  go_simp
  refine hK.out _ _ (fun h => absurd h (by omega)) ?_
  (try simp only [Act.put, List.setIfInBounds_toArray, List.set_cons_zero, List.set_cons_succ])
  clear hK K
  refine ord_nil ?_
  have m1 := put3_blk (x := .slice E1 (List.length ps) d1) (y := .int .i64 y) (z := .slice E2 (List.length us) d2) n2
  have m2 := put3_far (x := .slice E1 (List.length ps) d1) (y := .int .i64 y) (z := .slice E2 (List.length us) d2) n3 (show w.heap.size ≠ w.heap.size + 1 by omega)
  go_wp2_with fail
  have q0 := m1.cell 0
  have q1 := m1.cell 1
  have q2 := m1.cell 2
  have p0 := m2.cell 0
  have p1 := m2.cell 1
  have p2 := m2.cell 2
  unfold put3 at q0 q1 q2 p0 p1 p2
  refine bodyPost_ret (v := .tuple #[.agg #[.slice A1 (List.length os) c1, .int .i64 q, .slice A2 (List.length vs) c2], .agg #[.slice E1 (List.length ps) d1, .int .i64 y, .slice E2 (List.length us) d2]]) (by simp [results, Tryz.results5, go_sem, q0, q1, q2, p0, p1, p2]) rfl ?_
  exact ⟨A1, c1, A2, c2, os, q, vs, E1, d1, E2, d2, ps, y, us, rfl, hG1, hG2, slS_out n4 l1 (show w.heap.size + 1 < W0.heap.size by omega), slS_out n5 l2 (show w.heap.size + 1 < W0.heap.size by omega), slS_out n6 l3 (show w.heap.size + 1 < W0.heap.size by omega), slS_out n7 l4 (show w.heap.size + 1 < W0.heap.size by omega), put3_below n8 (by omega)⟩
end Go.Proofs.YtonehmjoolflfaaGreatDoor
