
/- Draws of a law's arguments: DrawMetricGauss, DrawSumOfMetrics. DrawSumOfMetrics. A dice: roll and below. -/
import Derived.Test.YtbpihnpakolooaaGreatDoorDta
import Derived.WalkLawsBesides
import Derived.Deep.DeepCutAuto
import Derived.Test.YtbpihnpakolooaaGreatDoorDAa
namespace Go.Proofs.YtbpihnpakolooaaGreatDoor
open Go Go.RowKit Grp
set_option linter.unusedSimpArgs false
set_option linter.unusedVariables false

/-- What a draw made: the metric's slices read where they are, and stay where only the result's slot R is stored to. -/
theorem slS_out {w : World} {S R : Nat} {A : Option Addr} {n c : Nat} {xs : List Int} {x y z : Value} (h : SlS w S A n c xs) {L : Nat} (hl : LoB L A n) (hR : R < L) : Sl (put3 w R x y z) (put3 w R x y z).heap.size A n c xs := by
 refine ⟨h.sl.len, h.sl.cap, h.sl.rng, fun hn => ?_, h.sl.nil_⟩
 obtain ⟨b, off, e, hb, hc⟩ := h.sl.at_ hn
 have hlb := hl b off none e hn
 refine ⟨b, off, e, by rw [put3_size]; exact hb, fun k hk => ?_⟩
 rw [← hc k hk]
 have hne : b ≠ R := by omega
 unfold World.cell?
 have : (put3 w R x y z).heap[b]? = w.heap[b]? := by
  unfold put3
  rw [Below.heap_setCell _ _ _ _ hne, Below.heap_setCell _ _ _ _ hne, Below.heap_setCell _ _ _ _ hne]
 rw [this]
/-- A metric that was made, as one that can be read. -/
theorem DrM.s {w0 w w' : World} {B S : Nat} {A : Option Addr} {n c lo : Nat} {E : Option Int} {R : List Int → Int → List Int → Prop} {e : Ending} (hR : ∀ os q vs, R os q vs → ∃ most, most ≤ 16 ∧ Sml most os q vs) (h : DrM w0 B S A n c lo E w R e w') : DrS w0 B S A n c lo w GenM e w' := by
 obtain ⟨v1, v2, os, q, vs, rfl, hP, o1, o2, ap, s, g⟩ := h
 obtain ⟨most, hm, hS⟩ := hR _ _ _ hP
 obtain ⟨A1, c1, rfl, s1⟩ := o1.slS hS.rng1 s
 obtain ⟨A2, c2, rfl, s2⟩ := o2.slS hS.rng2 s
 have h4 := hS.ok.l4
 have h16 := hS.ok.lt
 have d1 := hS.ok.d1
 have d2 := hS.ok.d2
 exact ⟨A1, c1, A2, c2, os, q, vs, rfl, ⟨by omega, by omega, ⟨by omega, by omega⟩⟩, s1, s2, ⟨o1.loB, o2.loB⟩, s.any, g⟩
theorem smallS_any (w0 w : World) (B S : Nat) (A : Option Addr) (n c lo : Nat) (bs : List Int) (hb : SlB w0 B A n c bs) (hn : n ≤ 1048576) (hs : Src w0 B S A n c lo w) (hBw : B ≤ w.heap.size) (most : Int) (m0 : 0 ≤ most) (m1 : most ≤ 16) :
  Calls Tryz.prog 73 #[.pointer (some ⟨S, 0, none⟩), .int .i64 most] w (DrS w0 B S A n c lo w GenM) :=
 (small_any w0 B S A n c bs hb hn n lo (by omega) most m0 m1 w hs hBw).mono fun _ _ h => h.s fun _ _ _ hS => ⟨most, m1, hS⟩
/-- A slice that lies from L on is as it was where a block below L was stored to. -/
theorem slS_low {w : World} {S R L : Nat} {A : Option Addr} {n c : Nat} {xs : List Int} {x y z : Value} (h : SlS w S A n c xs) (hl : LoB L A n) (hR : R < L) : SlS (put3 w R x y z) S A n c xs :=
 slS_keep (M := R) h (fun b hb hn => by
  obtain ⟨off, sp, e⟩ := hb
  have hne : b ≠ R := by have := hl b off sp e hn; omega
  unfold put3
  rw [Below.heap_setCell _ _ _ _ hne, Below.heap_setCell _ _ _ _ hne, Below.heap_setCell _ _ _ _ hne]) (by rw [put3_size]; exact Nat.le_refl _)
theorem LoB.less {L L' : Nat} {A : Option Addr} {n : Nat} (h : LoB L A n) (hl : L' ≤ L) : LoB L' A n := fun b off sp e hn => Nat.le_trans hl (h b off sp e hn)
theorem SlS.alloc {w : World} {S : Nat} {A : Option Addr} {n c : Nat} {xs : List Int} (h : SlS w S A n c xs) (o : Obj) : SlS (w.alloc o) S A n c xs := h.grown (World.grownBy_alloc _ _ _)
/-- It returned two metrics that it made. -/
def DTwo (w : World) (e : Ending) (w' : World) : Prop := ∃ A1 c1 A2 c2 os q vs E1 d1 E2 d2 ps y us, e = .returned (.tuple #[.agg #[.slice A1 (List.length os) c1, .int .i64 q, .slice A2 (List.length vs) c2], .agg #[.slice E1 (List.length ps) d1, .int .i64 y, .slice E2 (List.length us) d2]]) ∧ GenM os q vs ∧ GenM ps y us ∧
 Sl w' w'.heap.size A1 os.length c1 os ∧ Sl w' w'.heap.size A2 vs.length c2 vs ∧ Sl w' w'.heap.size E1 ps.length d1 ps ∧ Sl w' w'.heap.size E2 us.length d2 us ∧ Below w.heap.size w w'

/-- A source of draws over some bytes lies in block S; nothing below B has changed. -/
structure Dce (w0 : World) (B S : Nat) (A : Option Addr) (n c : Nat) (w : World) : Prop where
 src : ∃ (a : Nat) (h : Int), 0 ≤ h ∧ h < 18446744073709551616 ∧ a ≤ n ∧ Blk w S 999999 #[.slice A n c, .int .i64 a, .int .u64 h]
 below : Below B w0 w
 hS : B ≤ S

theorem Dce.lt {w0 w : World} {B S : Nat} {A : Option Addr} {n c : Nat} (h : Dce w0 B S A n c w) : S < w.heap.size := by obtain ⟨⟨a, g, _, _, _, hb⟩, _, _⟩ := h; exact hb.lt
theorem Dce.alloc {w0 w : World} {B S : Nat} {A : Option Addr} {n c : Nat} (h : Dce w0 B S A n c w) (o : Obj) : Dce w0 B S A n c (w.alloc o) := by
 have hl := h.lt
 obtain ⟨⟨a, g, g0, g1, ha, hb⟩, hbe, hS⟩ := h
 exact ⟨⟨a, g, g0, g1, ha, hb.alloc o⟩, hbe.alloc (by omega) o, hS⟩
theorem Dce.drewN {w0 w : World} {B S : Nat} {A : Option Addr} {n c : Nat} (h : Dce w0 B S A n c w) (m : Nat) : Dce w0 B S A n c (w.drewN m) := by
 obtain ⟨⟨a, g, g0, g1, ha, hb⟩, hbe, hS⟩ := h
 exact ⟨⟨a, g, g0, g1, ha, hb⟩, below_drewN hbe m, hS⟩
end Go.Proofs.YtbpihnpakolooaaGreatDoor
