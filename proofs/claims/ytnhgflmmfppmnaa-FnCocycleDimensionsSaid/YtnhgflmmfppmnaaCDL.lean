
/- The walk of the law FnCocycleDimensions. -/
import Derived.Test.YtnhgflmmfppmnaaD1
import Derived.Test.YtnhgflmmfppmnaaGC
import Derived.WalkLawsBesides
import Derived.Test.YtnhgflmmfppmnaaRKF
import Derived.Test.YtnhgflmmfppmnaaCD6
import Derived.Test.YtnhgflmmfppmnaaCD8
import Derived.Test.YtnhgflmmfppmnaaBD
import Derived.Test.YtnhgflmmfppmnaaD6
namespace Go.Proofs.Ytnhgflmmfppmnaa
open Go Go.RowKit Grp
set_option linter.unusedSimpArgs false
set_option linter.unusedVariables false
namespace Cd
/-- It drew a list of its own. -/
def DrO (w0 : World) (B S : Nat) (A : Option Addr) (n c : Nat) (w : World) (e : Ending) (w' : World) : Prop :=
  ∃ v os, e = .returned v ∧ Ow w' w.heap.size v os ∧ ((∀ x ∈ os, 1 ≤ x ∧ x ≤ 6) ∧ os.length ≤ 4) ∧ Src w0 B S A n c w' ∧ w.grownBy w' (some S)
theorem grown_below {w w1 w2 : World} {row : Option Nat} (h : w.grownBy w1 row) (k : Below w.heap.size w1 w2) : w.grownBy w2 row :=
  ⟨k.os.trans h.os, k.tape.trans h.tape, k.output.trans h.output, Nat.le_trans h.size k.size, fun b hb hne => (k.block b hb).trans (h.block b hb hne)⟩
theorem src_push {w0 w w' : World} {B C S : Nat} {A : Option Addr} {n c : Nat} {v : Value} {xs : List Int} {y : Int} {H g cap : Nat} (h : Src w0 B S A n c w) (hP : Pushed w C v xs y H g cap w') (hO : Ow w C v xs) (hBC : B ≤ C) (hC : C ≤ w.heap.size) : Src w0 B S A n c w' := by
  obtain ⟨⟨a, g, g0, g1, ha, hb⟩, hbe, hS⟩ := h
  exact ⟨⟨a, g, g0, g1, ha, hP.blk hO hb (by decide)⟩, hbe.trans ((hP.below hO hC).mono hBC), hS⟩
theorem src_ne {w0 w : World} {B S C : Nat} {A : Option Addr} {n c : Nat} {v : Value} {xs : List Int} (h : Src w0 B S A n c w) (hO : Ow w C v xs) : ∀ b, v.ownBlock = some b → some S ≠ some b := by
  obtain ⟨⟨a, g, g0, g1, ha, hb⟩, hbe, hS⟩ := h
  intro b hb' e
  exact hO.blk_ne hb (by decide) (by rw [hb']; exact e.symm)
/-- The draws so far. -/
structure OrdD (w0 : World) (B S : Nat) (A : Option Addr) (n c : Nat) (w : World) (vv : Value) (os : List Int) (wr : World) : Prop where
  own : Ow wr w.heap.size vv os
  src : Src w0 B S A n c wr
  keep : w.grownBy wr (some S)
  rng : ∀ x ∈ os, 1 ≤ x ∧ x ≤ 6
set_option maxRecDepth 100000 in
set_option maxHeartbeats 4000000 in
theorem drawOrders_any (w0 w : World) (B S : Nat) (A : Option Addr) (n c : Nat) (bs : List Int) (hb : SlB w0 B A n c bs) (hn : n ≤ 1048576) (hs : Src w0 B S A n c w) (hBw : B ≤ w.heap.size) :
    Calls Try.prog 11 #[.pointer (some ⟨S, 0, none⟩), .int .i64 6] w (DrO w0 B S A n c w) := by
  go_enter Try.func11, Try.ntmps11
  go_wp2_with fail
  refine (l01Next_any w0 _ B S A n c bs hb hn hs 6 ⟨by omega, by omega⟩).mono ?_
  rintro e w1 ⟨x, rfl, ⟨x0, x1, -⟩, hs1, hg1⟩
  have x1 := x1 (by omega)
  obtain ⟨o, ho⟩ : ∃ o, 1 + x = o := ⟨_, rfl⟩
  have o2 : 1 ≤ o ∧ o ≤ 6 := by omega
  have v1 : IntKind.i64.wrap (1 + x) = o := by rw [ho]; exact wr64 _ ⟨by omega, by omega⟩
  have hE1 : Ow (w1.alloc (.cells #[.int .i64 o] 2)) w.heap.size (.slice (some ⟨w1.heap.size, 0, none⟩) 1 1) [o] := Ow.made' (xs := [o]) (B := w.heap.size) w1 #[.int .i64 o] w1.heap.size 1 rfl rfl hg1.size rfl (by unfold maxLen; omega)
  have hs2 := hs1.alloc (.cells #[.int .i64 o] 2)
  have hg2 := hg1.trans (World.grownBy_alloc w1 (.cells #[.int .i64 o] 2) (some S))
  clear ho
  go_wp2_with fail
  clear v1
  go_loopw [5, 6] (fun v s wr => ∃ (vv : Value) (os : List Int) (sz : Int), vv = v ∧ s = .int .i64 sz ∧ 1 ≤ sz ∧ sz ≤ 6 ∧ os.length ≤ 4 ∧ OrdD w0 B S A n c w vv os wr) (fun _ s _ => (7 - intOf s).toNat)
  case atStart => exact ⟨_, [o], o, rfl, rfl, o2.1, o2.2, by simp, ⟨hE1, hs2, hg2, by simpa using o2⟩⟩
  case round =>
    clear hE1 hs1 hs2 hg1 hg2
    obtain ⟨vv, os, sz, rfl, rfl, z1, z2, hlen, hD⟩ := hrel
    have hkz := hD.keep.size
    obtain ⟨Ao, co, rfl⟩ := hD.own.val
    have v0 : IntKind.i64.wrap (2 * sz) = 2 * sz := wr64 _ ⟨by omega, by omega⟩
    go_wp2_with fail
    refine (l01Next_any w0 _ B S A n c bs hb hn hD.src 2 ⟨by omega, by omega⟩).mono ?_
    rintro e w2 ⟨y, rfl, ⟨y0, y1, -⟩, hs2, hg2⟩
    have y1 := y1 (by omega)
    replace hD : OrdD w0 B S A n c w (.slice Ao os.length co) os w2 := ⟨hD.own.far hg2 (src_ne hD.src hD.own), hs2, hD.keep.trans hg2, hD.rng⟩
    clear hs2 hg2
    by_cases hc : y = 0 ∧ os.length < 4 ∧ 2 * sz ≤ 6
    · obtain ⟨rfl, hl4, h6⟩ := hc
      have hl5 : (os.length : Int) < 4 := by omega
      obtain ⟨q, hq, q2, q6⟩ : ∃ q, (6 : Int).tdiv sz = q ∧ 2 ≤ q ∧ sz * q ≤ 6 := by
        obtain rfl | rfl | rfl : sz = 1 ∨ sz = 2 ∨ sz = 3 := by omega
        · exact ⟨6, by decide, by omega, by omega⟩
        · exact ⟨3, by decide, by omega, by omega⟩
        · exact ⟨2, by decide, by omega, by omega⟩
      have hz : ¬ sz = 0 := by omega
      have hq6 : q ≤ 6 := by
        have : 1 * q ≤ sz * q := Int.mul_le_mul_of_nonneg_right z1 (by omega)
        omega
      have u1 : IntKind.i64.wrap q = q := wr64 _ ⟨by omega, by omega⟩
      have u2 : IntKind.i64.wrap (q - 1) = q - 1 := wr64 _ ⟨by omega, by omega⟩
      go_wp2_with fail
      refine (l01Next_any w0 _ B S A n c bs hb hn hD.src (q - 1) ⟨by omega, by omega⟩).mono ?_
      rintro e w4 ⟨z, rfl, ⟨g0, g1, -⟩, hs4, hg4⟩
      have g1 := g1 (by omega)
      replace hD : OrdD w0 B S A n c w (.slice Ao os.length co) os w4 := ⟨hD.own.far hg4 (src_ne hD.src hD.own), hs4, hD.keep.trans hg4, hD.rng⟩
      clear hs4 hg4
      obtain ⟨t, ht⟩ : ∃ t, 2 + z = t := ⟨_, rfl⟩
      have t2 : 2 ≤ t ∧ t ≤ q := by omega
      have v1 : IntKind.i64.wrap (2 + z) = t := by rw [ht]; exact wr64 _ ⟨by omega, by omega⟩
      obtain ⟨P, hP⟩ : ∃ P, sz * t = P := ⟨_, rfl⟩
      have p1 : sz * t ≤ sz * q := Int.mul_le_mul_of_nonneg_left t2.2 (by omega)
      have p2 : sz * 2 ≤ sz * t := Int.mul_le_mul_of_nonneg_left t2.1 (by omega)
      rw [hP] at p1 p2
      have v3 : IntKind.i64.wrap P = P := wr64 _ ⟨by omega, by omega⟩
      have hkz2 := hD.keep.size
      have hJ := hD.own.alloc (.cells #[.int .i64 t] 2)
      have hsrc := hD.src.alloc (.cells #[.int .i64 t] 2)
      clear ht
      go_wp2_with (at_builtin; refine list_push _ rfl _ _ rfl w.heap.size _ os rfl hJ t _ _ rfl (Blk.new _ _ _) (by omega) (by simp; omega) (by simp) ?_; intro g2 cap w6 hP6)
      go_roundw
      case rel => exact ⟨_, os ++ [t], P, rfl, rfl, by omega, by omega, by simp; omega, ⟨hP6.own, src_push hsrc hP6 hJ hBw (by simp; omega), grown_below (hD.keep.trans (World.grownBy_alloc _ _ _)) (hP6.below hJ (by simp; omega)), fun x hx => by rcases List.mem_append.1 hx with h | h; exact hD.rng x h; simp at h; omega⟩⟩
      case measure => simp [intOf] <;> omega
    · have hret : DrO w0 B S A n c w (.returned (.slice Ao os.length co)) w2 := ⟨_, os, rfl, hD.own, ⟨hD.rng, hlen⟩, hD.src, hD.keep⟩
      by_cases hy : y = 0
      · subst hy
        by_cases hl4 : (os.length : Int) < 4
        · have h6 : ¬ 2 * sz ≤ 6 := fun h => hc ⟨rfl, by omega, h⟩
          go_wp2_with fail
          go_ret
          exact hret
        · go_wp2_with fail
          go_ret
          exact hret
      · go_wp2_with fail
        go_ret
        exact hret
/-- What it drew. -/
def DrC (w : World) (e : Ending) (w' : World) : Prop :=
  ∃ v os p, e = .returned (.tuple #[v, .int .i64 p]) ∧ Ow w' w.heap.size v os ∧ ((∀ x ∈ os, 0 ≤ x ∧ x ≤ 7) ∧ os.length ≤ 5) ∧ (2 ≤ p ∧ p ≤ 7) ∧ Below w.heap.size w w'
theorem pick_mem {ys : List Int} {x lo hi : Int} (hx : x ∈ ys) (h : (ys.all fun y => decide (lo ≤ y) && decide (y ≤ hi)) = true) : lo ≤ x ∧ x ≤ hi := by
  have := List.all_eq_true.1 h x hx
  simpa using this
set_option maxRecDepth 100000 in
set_option maxHeartbeats 4000000 in
theorem drawCD_any (w : World) (A : Option Addr) (n c : Nat) (bs : List Int) (hb : SlB w w.heap.size A n c bs) (hn : n ≤ 4096) : Calls Try.prog 5 #[.slice A n c] w (DrC w) := by
  go_enter Try.func5, Try.ntmps5
  go_wp2_with fail
  refine (l01From_any w A n c bs hb hn).mono ?_
  rintro e w1 ⟨S, rfl, hs1⟩
  have hz1 := hs1.below.size
  go_wp2_with fail
  refine (drawOrders_any w w1 _ S A n c bs hb (by omega) hs1 (by omega)).mono ?_
  rintro e w2 ⟨v, os, rfl, hO, ⟨hR, hL⟩, hs2, hg2⟩
  have hz2 := hg2.size
  replace hO := hO.less hz1
  obtain ⟨Ao, co, rfl⟩ := hO.val
  go_wp2_with fail
  refine (l01Next_any w _ _ S A n c bs hb (by omega) hs2 20 ⟨by omega, by omega⟩).mono ?_
  rintro e wf ⟨y, rfl, ⟨y0, y1, -⟩, hs3, hg3⟩
  have hO3 := hO.far hg3 (src_ne hs2 hO)
  clear hs1 hs2 hO
  by_cases h0 : y = 0
  · subst h0
    go_wp2_with fail
    refine (l01Pick_any w _ w.heap.size S A n c bs hb (by omega) (hs3.alloc _) wf.heap.size 2 2 [0, 7] (Blk.new _ _ _) (by have := hs3.lt; omega) rfl (by omega) (by omega)).mono ?_
    rintro e w5 ⟨t, rfl, ht, hs5, hg5⟩
    have ht2 : 0 ≤ t ∧ t ≤ 7 := pick_mem ht (by decide)
    clear ht
    have hO5 := hO3.far ((World.grownBy_alloc wf (.cells #[.int .i64 0, .int .i64 7] 2) (some S)).trans hg5) (src_ne hs3 hO3)
    have hJ := hO5.alloc (.cells #[.int .i64 t] 2)
    have hsrc := hs5.alloc (.cells #[.int .i64 t] 2)
    have hz5 := hs5.below.size
    go_wp2_with (at_builtin; refine list_push _ rfl _ _ rfl w.heap.size _ os rfl hJ t _ _ rfl (Blk.new _ _ _) (by omega) (by simp; omega) (by simp) ?_; intro g2 cap wf hP6)
    have hD : Src w w.heap.size S A n c wf ∧ Ow wf w.heap.size (.slice (some ⟨g2, 0, none⟩) (os.length + 1) cap) (os ++ [t]) ∧ ((∀ x ∈ os ++ [t], 0 ≤ x ∧ x ≤ 7) ∧ (os ++ [t]).length ≤ 5) := ⟨src_push hsrc hP6 hJ (Nat.le_refl _) (by simp; omega), hP6.own, fun x hx => by rcases List.mem_append.1 hx with h | h; (have := hR x h; omega); (simp at h; omega), by simp; omega⟩
    go_wp2_with fail
    refine (l01Pick_any w _ w.heap.size S A n c bs hb (by omega) (hD.1.alloc _) wf.heap.size 2 8 [2, 2, 2, 3, 3, 5, 7, 4] (Blk.new _ _ _) (by have := hD.1.lt; omega) rfl (by omega) (by omega)).mono ?_
    rintro e w9 ⟨p, rfl, hp, hs9, hg9⟩
    have hp2 : 2 ≤ p ∧ p ≤ 7 := pick_mem hp (by decide)
    clear hp
    have hO9 := hD.2.1.far ((World.grownBy_alloc wf (.cells #[.int .i64 2, .int .i64 2, .int .i64 2, .int .i64 3, .int .i64 3, .int .i64 5, .int .i64 7, .int .i64 4] 2) (some S)).trans hg9) (src_ne hD.1 hD.2.1)
    go_wp2_with fail
    refine bodyPost_ret (v := .tuple #[.slice (some ⟨g2, 0, none⟩) (os.length + 1) cap, .int .i64 p]) (by simp [results, Try.results5, go_sem]) rfl ?_
    exact ⟨_, _, p, rfl, hO9, hD.2.2, hp2, hs9.below⟩
  · by_cases h1 : y = 1
    · subst h1
      obtain ⟨vf, hvf⟩ : ∃ vf, Value.slice none 0 0 = vf := ⟨_, rfl⟩
      have hD : Src w w.heap.size S A n c wf ∧ Ow wf w.heap.size vf [] ∧ ((∀ x ∈ ([] : List Int), 0 ≤ x ∧ x ≤ 7) ∧ ([] : List Int).length ≤ 5) := ⟨hs3, hvf ▸ Ow.nil _ _, by simp, by simp⟩
      subst hvf
      go_wp2_with fail
      refine (l01Pick_any w _ w.heap.size S A n c bs hb (by omega) (hD.1.alloc _) wf.heap.size 2 8 [2, 2, 2, 3, 3, 5, 7, 4] (Blk.new _ _ _) (by have := hD.1.lt; omega) rfl (by omega) (by omega)).mono ?_
      rintro e w9 ⟨p, rfl, hp, hs9, hg9⟩
      have hp2 : 2 ≤ p ∧ p ≤ 7 := pick_mem hp (by decide)
      clear hp
      have hO9 := hD.2.1.far ((World.grownBy_alloc wf (.cells #[.int .i64 2, .int .i64 2, .int .i64 2, .int .i64 3, .int .i64 3, .int .i64 5, .int .i64 7, .int .i64 4] 2) (some S)).trans hg9) (src_ne hD.1 hD.2.1)
      go_wp2_with fail
      refine bodyPost_ret (v := .tuple #[.slice none 0 0, .int .i64 p]) (by simp [results, Try.results5, go_sem]) rfl ?_
      exact ⟨_, _, p, rfl, hO9, hD.2.2, hp2, hs9.below⟩
    · obtain ⟨vf, hvf⟩ : ∃ vf, Value.slice Ao os.length co = vf := ⟨_, rfl⟩
      have hD : Src w w.heap.size S A n c wf ∧ Ow wf w.heap.size vf os ∧ ((∀ x ∈ os, 0 ≤ x ∧ x ≤ 7) ∧ os.length ≤ 5) := ⟨hs3, hvf ▸ hO3, fun x hx => by have := hR x hx; omega, by omega⟩
      subst hvf
      go_wp2_with fail
      refine (l01Pick_any w _ w.heap.size S A n c bs hb (by omega) (hD.1.alloc _) wf.heap.size 2 8 [2, 2, 2, 3, 3, 5, 7, 4] (Blk.new _ _ _) (by have := hD.1.lt; omega) rfl (by omega) (by omega)).mono ?_
      rintro e w9 ⟨p, rfl, hp, hs9, hg9⟩
      have hp2 : 2 ≤ p ∧ p ≤ 7 := pick_mem hp (by decide)
      clear hp
      have hO9 := hD.2.1.far ((World.grownBy_alloc wf (.cells #[.int .i64 2, .int .i64 2, .int .i64 2, .int .i64 3, .int .i64 3, .int .i64 5, .int .i64 7, .int .i64 4] 2) (some S)).trans hg9) (src_ne hD.1 hD.2.1)
      go_wp2_with fail
      refine bodyPost_ret (v := .tuple #[.slice Ao os.length co, .int .i64 p]) (by simp [results, Try.results5, go_sem]) rfl ?_
      exact ⟨_, _, p, rfl, hO9, hD.2.2, hp2, hs9.below⟩
end Cd
end Go.Proofs.Ytnhgflmmfppmnaa
namespace Go.Proofs.Ytnhgflmmfppmnaa
open Go Go.RowKit Grp Rk
set_option linter.unusedSimpArgs false
set_option linter.unusedVariables false
namespace Cd
theorem tail6 {R : Nat} (h : R ≤ 5) : IntKind.i64.wrap ((R : Int) + 2) = (R : Int) + 2 ∧ IntKind.i64.wrap ((R : Int) + 1) = (R : Int) + 1 ∧ IntKind.i64.wrap (((R : Int) + 2) * (R + 1)) = ((R : Int) + 2) * (R + 1) ∧ IntKind.i64.wrap (((R : Int) + 2) * (R + 1) * R) = ((R : Int) + 2) * (R + 1) * R ∧ (((R : Int) + 2) * (R + 1) * R).tdiv 6 = ((R : Int) + 2) * (R + 1) * R / 6 ∧ IntKind.i64.wrap (((R : Int) + 2) * (R + 1) * R / 6) = ((R : Int) + 2) * (R + 1) * R / 6 := by
  obtain rfl | rfl | rfl | rfl | rfl | rfl : R = 0 ∨ R = 1 ∨ R = 2 ∨ R = 3 ∨ R = 4 ∨ R = 5 := by omega
  all_goals decide
theorem rkC_take {os : List Int} {p : Int} {k : Nat} (hk : k < os.length) : Pk.rkC (os.take (k + 1)) p = Pk.rkC (os.take k) p + if gi os k % p = 0 then 1 else 0 := by
  unfold Pk.rkC
  rw [List.take_add_one, List.getElem?_eq_getElem hk, List.filter_append, List.length_append]
  congr 1
  have e : gi os k = os[k] := by unfold gi; rw [List.getD_eq_getElem?_getD, List.getElem?_eq_getElem hk]; rfl
  rw [e]
  by_cases h : os[k] % p = 0 <;> simp [h]
theorem cd_out {os : List Int} {p : Int} (h : ¬ spK os p = 0) : cdR os p = 0 ∧ bdR os p = 0 := by
  unfold cdR bdR
  rw [if_neg h, if_neg h]
  exact ⟨rfl, rfl⟩
set_option maxRecDepth 100000 in
set_option maxHeartbeats 4000000 in
theorem law_CocycleDimensions {w : World} (A : Option Addr) (n c : Nat) (bs : List Int) (h : BlIn w A n c bs) : Calls Try.prog 3 #[.slice A n c] w (Re w (.bool true)) := by
  by_cases hn0 : 4096 < n
  · have hd : decide (4096 < (n : Int)) = true := decide_eq_true (by omega)
    have Hd := hide hd
    clear hd
    go_enter Try.func3, Try.ntmps3
    go_wp2_with fail
    refine (big_any _ A n c).mono ?_
    rintro e w1 ⟨rfl, m, rfl⟩
    rw [Hd.out]
    go_wp2
    go_ret
    exact ⟨rfl, (by repeat (first | assumption | exact Below.refl _ _ | apply below_drewN | apply Below.drew | apply Below.alloc | apply Below.setCell | omega | (focus (simp; done)) | (focus (simp; omega))))⟩
  · have hn : n ≤ 4096 := by omega
    have hd : decide (4096 < (n : Int)) = false := decide_eq_false (by omega)
    have Hd := hide hd
    clear hd
    have hS := h.sl
    go_enter Try.func3, Try.ntmps3
    go_wp2_with fail
    refine (big_any _ A n c).mono ?_
    rintro e w1 ⟨rfl, m, rfl⟩
    rw [Hd.out]
    have kk : Below w.heap.size w (w.drewN m) := below_drewN (Below.refl _ _) _
    have hS1 : SlB (w.drewN m) (w.drewN m).heap.size A n c bs := ⟨hS.len, hS.cap, hS.rng, hS.at_⟩
    obtain ⟨w1, hw1⟩ : ∃ w1, w.drewN m = w1 := ⟨_, rfl⟩
    rw [hw1] at kk hS1 ⊢
    clear hw1 hS h
    have hsz := kk.size
    go_wp2_with fail
    refine (drawCD_any w1 A n c bs hS1 hn).mono ?_
    rintro e w2 ⟨v, os, p, rfl, hO, ⟨hR, hL⟩, hp, hb2⟩
    have R1 : ∀ x ∈ os, i64ok x := fun x hx => by have := hR x hx; exact ⟨by omega, by omega⟩
    obtain ⟨A2, c2, rfl, hsl⟩ := hO.sl R1
    have i2 : ints_R w2 w2.heap.size (.slice A2 os.length c2) os := ⟨A2, _, c2, rfl, hsl⟩
    have hsh : ints_Sh os := by unfold ints_Sh; omega
    have hpk : i64ok p := ⟨by omega, by omega⟩
    replace kk := kk.trans (hb2.mono hsz)
    clear hb2 hO hsl R1 hS1
    have HO := hide (@cd_out os p)
    have HD := hide (@Pk.dims_all os p)
    have HC1 := hide (fun W (i : ints_R W W.heap.size (.slice A2 os.length c2) os) => implCD_c W _ os i hsh p hpk)
    have HC2 := hide (fun W (i : ints_R W W.heap.size (.slice A2 os.length c2) os) => specCD_c W _ os i hsh p hpk)
    have HB1 := hide (fun W (i : ints_R W W.heap.size (.slice A2 os.length c2) os) => implBD_c W _ os i hsh p hpk)
    have HB2 := hide (fun W (i : ints_R W W.heap.size (.slice A2 os.length c2) os) => specBD_c W _ os i hsh p hpk)
    obtain ⟨da, hda⟩ : ∃ da, cdR os p = da := ⟨_, rfl⟩
    obtain ⟨db, hdb⟩ : ∃ db, bdR os p = db := ⟨_, rfl⟩
    obtain ⟨sk, hsk⟩ : ∃ sk, spK os p = sk := ⟨_, rfl⟩
    rw [hda, hsk] at HC1 HC2
    rw [hdb, hsk] at HB1 HB2
    rw [hda, hdb, hsk] at HO HD
    clear hda hdb hsk
    have z2 := kk.size
    go_wp2_with fail
    refine (HC1.out w2 i2).mono ?_
    rintro e w3 ⟨rfl, hb3⟩
    have i3 := ints_keep i2 hb3 hb3.size
    replace kk := kk.trans (hb3.mono z2)
    have z3 := kk.size
    clear hb3 i2 HC1
    go_wp2_with fail
    refine (HC2.out w3 i3).mono ?_
    rintro e w4 ⟨rfl, hb4⟩
    have i4 := ints_keep i3 hb4 hb4.size
    replace kk := kk.trans (hb4.mono z3)
    have z4 := kk.size
    clear hb4 i3 HC2
    go_wp2_with fail
    refine (HB1.out w4 i4).mono ?_
    rintro e w5 ⟨rfl, hb5⟩
    have i5 := ints_keep i4 hb5 hb5.size
    replace kk := kk.trans (hb5.mono z4)
    have z5 := kk.size
    clear hb5 i4 HB1
    go_wp2_with fail
    refine (HB2.out w5 i5).mono ?_
    rintro e w6 ⟨rfl, hb6⟩
    have i6 := ints_keep i5 hb6 hb6.size
    replace kk := kk.trans (hb6.mono z5)
    clear hb6 i5 HB2 z2 z3 z4 z5
    by_cases hk : sk = 0
    · subst hk
      have hdd := HD.out rfl
      clear HO HD
      obtain ⟨A3, n3, c3, e3, hsl⟩ := ints_form i6
      simp only [Value.slice.injEq] at e3
      obtain ⟨rfl, rfl, rfl⟩ := e3
      clear i6
      have hr5 : ∀ k, Pk.rkC (os.take k) p ≤ 5 := fun k => by
        unfold Pk.rkC
        have h1 := List.length_filter_le (fun m => m % p == 0) (os.take k)
        have h2 : (os.take k).length ≤ os.length := by simp; omega
        omega
      have HT := hide (fun k (hk : k < os.length) => rkC_take (p := p) hk)
      have HR5 := hide hr5
      have hpz : ¬ p = 0 := by omega
      have HDD := hide hdd
      clear hdd hr5
      go_wp2_with fail
      go_loopw [13, 14] (fun r i wr => ∃ (k : Nat), k ≤ os.length ∧ i = .int .i64 k ∧ r = .int .i64 (Pk.rkC (os.take k) p : Nat) ∧ wr = w6) (fun _ i _ => os.length - (intOf i).toNat)
      case atStart => exact ⟨0, by omega, rfl, by simp [Pk.rkC], rfl⟩
      case round =>
        obtain ⟨k, hk, rfl, rfl, rfl⟩ := hrel
        have h5 := HR5.out k
        by_cases hlt : k < os.length
        · obtain ⟨b, off, rfl, hbl, hc⟩ := hsl.at_ (by omega)
          have hck := hc k hlt
          have hrk := HT.out k hlt
          have hx := hR _ (gi_mem hlt)
          obtain ⟨x, hxe⟩ : ∃ x, gi os k = x := ⟨_, rfl⟩
          rw [hxe] at hck hrk hx
          have ht : x.tmod p = x % p := Int.tmod_eq_emod_of_nonneg (by omega)
          have v1 : IntKind.i64.wrap ((k : Int) + 1) = ((k + 1 : Nat) : Int) := wr64 _ ⟨by omega, by omega⟩
          have hm0 : 0 ≤ x % p := Int.emod_nonneg _ hpz
          have hm1 : x % p < p := Int.emod_lt_of_pos _ (by omega)
          have v3 : IntKind.i64.wrap (x % p) = x % p := wr64 _ ⟨by omega, by omega⟩
          obtain ⟨R, hRe⟩ : ∃ R, Pk.rkC (os.take k) p = R := ⟨_, rfl⟩
          rw [hRe] at hrk h5 ⊢
          have v2 : IntKind.i64.wrap ((R : Int) + 1) = ((R + 1 : Nat) : Int) := wr64 _ ⟨by omega, by omega⟩
          by_cases hx0 : x % p = 0
          · rw [if_pos hx0] at hrk
            go_wp2_with fail
            go_roundw
            case rel => exact ⟨k + 1, by omega, by go_num, by rw [hrk]; exact congrArg (Value.int .i64) (by omega), by first | trivial | rfl⟩
            case measure => simp [intOf] <;> omega
          · rw [if_neg hx0] at hrk
            go_wp2_with fail
            go_roundw
            case rel => exact ⟨k + 1, by omega, by go_num, by rw [hrk]; exact congrArg (Value.int .i64) (by omega), by first | trivial | rfl⟩
            case measure => simp [intOf] <;> omega
        · obtain rfl : k = os.length := by omega
          have hdd := HDD.out
          rw [List.take_length] at h5 ⊢
          obtain ⟨R, hRe⟩ : ∃ R, Pk.rkC os p = R := ⟨_, rfl⟩
          rw [hRe] at hdd h5 ⊢
          obtain ⟨t1, t2, t3, t4, t5, t6⟩ := tail6 h5
          obtain ⟨Q, hQ⟩ : ∃ Q, ((R : Int) + 2) * (R + 1) * R / 6 = Q := ⟨_, rfl⟩
          rw [hQ] at hdd t5 t6
          have hd1 : IntKind.i64.wrap (da - db) = Q := by rw [hdd]; exact t6
          clear hdd
          go_wp2_with fail
          go_ret
          exact ⟨rfl, kk⟩
    · obtain ⟨rfl, rfl⟩ := HO.out hk
      clear HO HD
      go_wp2_with fail
      go_ret
      exact ⟨rfl, kk⟩
end Cd
end Go.Proofs.Ytnhgflmmfppmnaa
