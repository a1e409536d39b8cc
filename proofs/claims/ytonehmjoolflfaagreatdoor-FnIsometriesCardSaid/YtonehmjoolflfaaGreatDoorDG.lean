
/- DrawParseMetric: a metric's text, damaged some times. -/
import Derived.Test.YtonehmjoolflfaaGreatDoorDD
import Derived.Test.YtonehmjoolflfaaGreatDoorZd
import Derived.Test.YtonehmjoolflfaaGreatDoorDta
import Derived.Test.YtonehmjoolflfaaGreatDoorMTa
import Derived.Deep.LoopGhost
namespace Go.Proofs.YtonehmjoolflfaaGreatDoor
open Go Go.RowKit
set_option linter.unusedSimpArgs false
set_option linter.unusedVariables false
set_option maxRecDepth 100000
theorem metText_size {os vs : List Int} {q : Int} (h1 : ∀ x ∈ os, i64ok x) (h2 : ∀ x ∈ vs, i64ok x) (hq : i64ok q) (l1 : os.length ≤ 4) (l2 : vs.length ≤ 16) : (metText os q vs).size ≤ 1000 := by
  have a := jb_size os h1
  have b := jb_size vs h2
  have c := dec_size hq
  have e1 : (⟨#[59]⟩ : ByteArray).size = 1 := rfl
  have e2 : (⟨#[58]⟩ : ByteArray).size = 1 := rfl
  unfold metText
  simp only [ByteArray.size_append]
  omega
theorem sml_q {most : Int} {os vs : List Int} {q : Int} (h : Sml most os q vs) : i64ok q := ⟨by have := h.ok.d1; omega, by have := h.ok.d2; omega⟩
/-- What stands ahead of a round: the source at place a with the hash h, a text of T bytes, and so many rounds to come. -/
def DgI (w : World) (S : Nat) (A : Option Addr) (n c gk T : Nat) (wr : World) : Prop :=
  ∃ (a : Nat) (h : Int), SrcX w w.heap.size S A n c a h wr ∧
    ((a < n ∧ T ≤ 1000 + a ∧ gk = (n - a) * (Zl.KB + 2)) ∨
     (a = n ∧ ∃ (cc q : Nat) (h0 : Int), Zl.TrailS (stZ h0) (1000 + n) cc q T ∧ stZ h = Zl.it (stZ h0) q ∧ cc ≤ Zl.KB ∧ gk = Zl.KB - cc))
theorem DgI.size {w wr : World} {S : Nat} {A : Option Addr} {n c gk T : Nat} (hI : DgI w S A n c gk T wr) (hn : n ≤ 4096) : T ≤ 536880000 := by
  obtain ⟨a, h, _, h1 | ⟨_, cc, q, h0, ht, _⟩⟩ := hI
  · omega
  · have := ht.size (stZ_lt h0)
    omega
theorem DgI.below {w wr : World} {S : Nat} {A : Option Addr} {n c gk T : Nat} (hI : DgI w S A n c gk T wr) : Below w.heap.size w wr := by
  obtain ⟨a, h, hs, _⟩ := hI
  exact hs.below
/-- The start. -/
theorem DgI.start {w wr : World} {S : Nat} {A : Option Addr} {n c a T : Nat} {h : Int} (hs : SrcX w w.heap.size S A n c a h wr) (hT : T ≤ 1000) : ∃ gk, DgI w S A n c gk T wr := by
  have ha := hs.ha
  by_cases hl : a < n
  · exact ⟨_, a, h, hs, .inl ⟨hl, by omega, rfl⟩⟩
  · exact ⟨_, a, h, hs, .inr ⟨by omega, 0, 0, h, Zl.TrailS.start (by omega), rfl, by omega, rfl⟩⟩
/-- One round. -/
theorem DgI.round {w wr wx : World} {S : Nat} {A : Option Addr} {n c a T T' a' : Nat} {gk : Nat} {h x : Int} (hs : SrcX w w.heap.size S A n c a h wr)
    (hI : (a < n ∧ T ≤ 1000 + a ∧ gk = (n - a) * (Zl.KB + 2)) ∨ (a = n ∧ ∃ (cc q : Nat) (h0 : Int), Zl.TrailS (stZ h0) (1000 + n) cc q T ∧ stZ h = Zl.it (stZ h0) q ∧ cc ≤ Zl.KB ∧ gk = Zl.KB - cc))
    (hx : a = n → x = tick h / 8589934592 % 16777216 % 3) (x0 : x = 0) (t1 : T' ≤ T + 1) (t2 : T ≤ T' + 1)
    (ha : (if a < n then a + 1 else a) ≤ a') (hs' : SrcX w w.heap.size S A n c a' (if T = 0 then tick (tick h) else tick (tick (tick (tick h)))) wx) :
    ∃ gk', gk' < gk ∧ DgI w S A n c gk' T' wx := by
  have han := hs'.ha
  have hK : 0 < Zl.KB := by unfold Zl.KB; omega
  rcases hI with ⟨hl, hT, hg⟩ | ⟨he, cc, q, h0, ht, hst, hc, hg⟩
  · rw [if_pos hl] at ha
    have hpos : (n - a) * (Zl.KB + 2) = (n - a - 1) * (Zl.KB + 2) + (Zl.KB + 2) := by
      obtain ⟨d, hd⟩ : ∃ d, n - a = d + 1 := ⟨n - a - 1, by omega⟩
      rw [hd, Nat.succ_mul]; rfl
    by_cases hl2 : a' < n
    · have hmul : (n - a') * (Zl.KB + 2) ≤ (n - a - 1) * (Zl.KB + 2) := Nat.mul_le_mul_right _ (by omega)
      exact ⟨(n - a') * (Zl.KB + 2), by omega, a', _, hs', .inl ⟨hl2, by omega, rfl⟩⟩
    · exact ⟨Zl.KB, by omega, a', _, hs', .inr ⟨by omega, 0, 0, _, Zl.TrailS.start (by omega), rfl, by omega, rfl⟩⟩
  · have hae : a' = n := by
      rw [if_neg (by omega)] at ha
      omega
    have hz : Zl.it (stZ h0) q / Zl.SL % 3 = 0 := by
      rw [← hst]
      have hr := tick_rng h
      have e : ((stZ h : Nat) : Int) = tick h % 144115188075855872 := by unfold stZ; omega
      have := hx he
      rw [x0] at this
      have y : tick h / 8589934592 % 16777216 = ((stZ h / 8589934592 : Nat) : Int) := by omega
      rw [y] at this
      unfold Zl.SL
      generalize stZ h / 8589934592 = z at *
      omega
    have hgo := fun q' h0' h1' => ht.go (q' := q') (T' := T') (stZ_lt h0) hc hz h0' h1' t1 t2
    by_cases hT0 : T = 0
    · obtain ⟨k1, k2, _⟩ := hgo (q + 2) (fun _ => rfl) (fun h => absurd hT0 h)
      rw [if_pos hT0] at hs'
      refine ⟨Zl.KB - (cc + 1), by omega, a', _, hs', .inr ⟨hae, cc + 1, q + 2, h0, k1, ?_, k2, rfl⟩⟩
      have := stZ_ticks h 2
      rw [hst, ← Zl.it_add] at this
      exact this
    · obtain ⟨k1, k2, _⟩ := hgo (q + 4) (fun h => absurd h hT0) (fun _ => rfl)
      rw [if_neg hT0] at hs'
      refine ⟨Zl.KB - (cc + 1), by omega, a', _, hs', .inr ⟨hae, cc + 1, q + 4, h0, k1, ?_, k2, rfl⟩⟩
      have := stZ_ticks h 4
      rw [hst, ← Zl.it_add] at this
      exact this
/-- It returned a text that is not too long. -/
def DgS (w : World) (e : Ending) (w' : World) : Prop := ∃ t : ByteArray, e = .returned (.string t) ∧ t.size ≤ 536880000 ∧ Below w.heap.size w w'
set_option maxHeartbeats 4000000 in
theorem drawParse_any (w : World) (A : Option Addr) (n c : Nat) (bs : List Int) (hb : SlB w w.heap.size A n c bs) (hn : n ≤ 4096) : Calls Tryz.prog 20 #[.slice A n c] w (DgS w) := by
  go_enter Tryz.func20, Tryz.ntmps20
  go_wp2_with fail
  refine (l01From_any w A n c bs hb hn).mono ?_
  rintro e w1 ⟨S, rfl, s1⟩
  have z1 := s1.below.size
  go_wp2_with fail
  refine (l10Draw_any w w1 w.heap.size S A n c 0 bs hb (by omega) s1 z1).mono ?_
  rintro e w2 ⟨v1, v2, os, q, vs, rfl, ⟨most, _, _, hR⟩, o1, o2, ap, s2, g2⟩
  obtain ⟨A1, c1, rfl, sl1⟩ := o1.slS hR.rng1 s2
  obtain ⟨A2, c2, rfl, sl2⟩ := o2.slS hR.rng2 s2
  have hmt := metText_size hR.rng1 hR.rng2 (sml_q hR) hR.ok.l4 hR.ok.lt
  have hlx := hR.ok.l4
  have hlv := hR.ok.lt
  have hd1 := hR.ok.d1
  have hd2 := hR.ok.d2
  have hT := l10Text_any w2 A1 os.length c1 os q A2 vs.length c2 vs sl1.sl sl2.sl hR.rng1 hR.rng2 (sml_q hR) (fun x hx => by have := hR.ok.m2 x hx; omega) (fun x hx => (hR.ok.rng x hx).1) (by omega) (by omega) (by omega)
  obtain ⟨tx, htx⟩ : ∃ t, metText os q vs = t := ⟨_, rfl⟩
  rw [htx] at hT hmt
  clear htx
  go_wp2_with fail
  refine hT.mono ?_
  rintro e w3 ⟨rfl, hb3⟩
  have s3 := (s2.all hb3 (by have := g2.size; omega)).any
  obtain ⟨⟨a, h, -, hX⟩⟩ := s3
  obtain ⟨g0, hI⟩ := DgI.start hX hmt
  clear hT hX hb3 s2 g2 sl1 sl2 o1 o2 ap hR
  go_wp2_with fail
  go_loopg [4] g0 (fun gk t wr => ∃ u : ByteArray, t = .string u ∧ DgI w S A n c gk u.size wr)
  case atStart => exact ⟨tx, rfl, hI⟩
  case round =>
    clear hI
    obtain ⟨u, rfl, hI⟩ := hrel
    have hsz := hI.size hn
    obtain ⟨a, h, hX, hI2⟩ := hI
    have zB := hX.below.size
    go_wp2_with fail
    refine (l01Next_x w _ w.heap.size S A n c a h bs hb (by omega) hX 3 ⟨by omega, by omega⟩ (by omega)).mono ?_
    rintro e w4 ⟨x, rfl, ⟨⟨x0, x1, -⟩, hx⟩, s4, g4⟩
    have zC := s4.below.size
    by_cases c0 : x = 0
    · have hI3 := fun (T' a' : Nat) (wx : World) => DgI.round (T' := T') (a' := a') (wx := wx) hX hI2 hx c0
      have HI3 := hide hI3
      clear hI2 hx hI3
      subst c0
      go_wp2_with fail
      refine (l01Damage_x w _ w.heap.size S A n c _ (tick h) bs hb (by omega) s4 zC u (by omega)).mono ?_
      rintro e w5 ⟨u', a', rfl, t1, t2, ha, -, s5, g5⟩
      obtain ⟨gk', hlt, hI'⟩ := HI3.out _ _ _ t1 t2 ha s5
      clear HI3 t1 t2 ha s5 g5
      go_wp2_with fail
      go_roundg gk'
      case measure => exact hlt
      case rel => exact ⟨u', rfl, hI'⟩
    · clear hI2 hx
      go_wp2_with fail
      go_ret
      exact ⟨u, rfl, hsz, s4.below⟩
end Go.Proofs.YtonehmjoolflfaaGreatDoor
