
/- Draws of a law's arguments: DrawMetricGauss, DrawSumOfMetrics. DrawSumOfMetrics. A dice: roll and below. -/
import Derived.Test.YtonehmjoolflfaaGreatDoorDta
import Derived.WalkLawsBesides
import Derived.Deep.DeepCutAuto
import Derived.Test.YtonehmjoolflfaaGreatDoorDAa
namespace Go.Proofs.YtonehmjoolflfaaGreatDoor
open Go Go.RowKit Grp
set_option linter.unusedSimpArgs false
set_option linter.unusedVariables false

/-- What a draw made: the metric's slices read where they are, and stay where only the result's slot R is stored to. -/
theorem slS_out {w : World} {S R : Nat} {A : Option Addr} {n c : Nat} {xs : List Int} {x y z : Value} (h : SlS w S A n c xs) {L : Nat} (hl : LoB L A n) (hR : R < L) : Sl (put3 w R x y z) (put3 w R x y z).heap.size A n c xs := by
  refine ⟨h.sl.len, h.sl.cap, h.sl.rng, fun hn => ?_, h.sl.nil_⟩
  obtain ⟨b, off, e, hb, hc⟩ := h.sl.at_ hn
  have hlb := hl b off none e hn
  refine ⟨b, off, e, by rw [put3_size]; exact hb, fun k hk => ?_⟩
  rw [← hc k hk]
  have hne : b ≠ R := by omega
  unfold World.cell?
  have : (put3 w R x y z).heap[b]? = w.heap[b]? := by
    unfold put3
    rw [Below.heap_setCell _ _ _ _ hne, Below.heap_setCell _ _ _ _ hne, Below.heap_setCell _ _ _ _ hne]
  rw [this]
/-- It returned a metric and a number, that it made. -/
def DMi (w : World) (e : Ending) (w' : World) : Prop := ∃ A1 c1 A2 c2 os q vs k, e = .returned (.tuple #[.agg #[.slice A1 (List.length os) c1, .int .i64 q, .slice A2 (List.length vs) c2], .int .i64 k]) ∧ GenM os q vs ∧ i64ok k ∧ Sl w' w'.heap.size A1 os.length c1 os ∧ Sl w' w'.heap.size A2 vs.length c2 vs ∧ Below w.heap.size w w'
/-- A metric that was made, as one that can be read. -/
theorem DrM.s {w0 w w' : World} {B S : Nat} {A : Option Addr} {n c lo : Nat} {E : Option Int} {R : List Int → Int → List Int → Prop} {e : Ending} (hR : ∀ os q vs, R os q vs → ∃ most, most ≤ 16 ∧ Sml most os q vs) (h : DrM w0 B S A n c lo E w R e w') : DrS w0 B S A n c lo w GenM e w' := by
  obtain ⟨v1, v2, os, q, vs, rfl, hP, o1, o2, ap, s, g⟩ := h
  obtain ⟨most, hm, hS⟩ := hR _ _ _ hP
  obtain ⟨A1, c1, rfl, s1⟩ := o1.slS hS.rng1 s
  obtain ⟨A2, c2, rfl, s2⟩ := o2.slS hS.rng2 s
  have h4 := hS.ok.l4
  have h16 := hS.ok.lt
  have d1 := hS.ok.d1
  have d2 := hS.ok.d2
  exact ⟨A1, c1, A2, c2, os, q, vs, rfl, ⟨by omega, by omega, ⟨by omega, by omega⟩⟩, s1, s2, ⟨o1.loB, o2.loB⟩, s.any, g⟩
theorem smallS_any (w0 w : World) (B S : Nat) (A : Option Addr) (n c lo : Nat) (bs : List Int) (hb : SlB w0 B A n c bs) (hn : n ≤ 1073741824) (hs : Src w0 B S A n c lo w) (hBw : B ≤ w.heap.size) (most : Int) (m0 : 0 ≤ most) (m1 : most ≤ 16) :
    Calls Tryz.prog 47 #[.pointer (some ⟨S, 0, none⟩), .int .i64 most] w (DrS w0 B S A n c lo w GenM) :=
  (small_any w0 B S A n c bs hb hn n lo (by omega) most m0 m1 w hs hBw).mono fun _ _ h => h.s fun _ _ _ hS => ⟨most, m1, hS⟩
/-- A slice that lies from L on is as it was where a block below L was stored to. -/
theorem slS_low {w : World} {S R L : Nat} {A : Option Addr} {n c : Nat} {xs : List Int} {x y z : Value} (h : SlS w S A n c xs) (hl : LoB L A n) (hR : R < L) : SlS (put3 w R x y z) S A n c xs :=
  slS_keep (M := R) h (fun b hb hn => by
    obtain ⟨off, sp, e⟩ := hb
    have hne : b ≠ R := by have := hl b off sp e hn; omega
    unfold put3
    rw [Below.heap_setCell _ _ _ _ hne, Below.heap_setCell _ _ _ _ hne, Below.heap_setCell _ _ _ _ hne]) (by rw [put3_size]; exact Nat.le_refl _)
theorem LoB.less {L L' : Nat} {A : Option Addr} {n : Nat} (h : LoB L A n) (hl : L' ≤ L) : LoB L' A n := fun b off sp e hn => Nat.le_trans hl (h b off sp e hn)
theorem SlS.alloc {w : World} {S : Nat} {A : Option Addr} {n c : Nat} {xs : List Int} (h : SlS w S A n c xs) (o : Obj) : SlS (w.alloc o) S A n c xs := h.grown (World.grownBy_alloc _ _ _)
/-- It returned two metrics that it made. -/
def DTwo (w : World) (e : Ending) (w' : World) : Prop := ∃ A1 c1 A2 c2 os q vs E1 d1 E2 d2 ps y us, e = .returned (.tuple #[.agg #[.slice A1 (List.length os) c1, .int .i64 q, .slice A2 (List.length vs) c2], .agg #[.slice E1 (List.length ps) d1, .int .i64 y, .slice E2 (List.length us) d2]]) ∧ GenM os q vs ∧ GenM ps y us ∧
  Sl w' w'.heap.size A1 os.length c1 os ∧ Sl w' w'.heap.size A2 vs.length c2 vs ∧ Sl w' w'.heap.size E1 ps.length d1 ps ∧ Sl w' w'.heap.size E2 us.length d2 us ∧ Below w.heap.size w w'

/-- A source of draws over some bytes lies in block S; nothing below B has changed. -/
structure Dce (w0 : World) (B S : Nat) (A : Option Addr) (n c : Nat) (w : World) : Prop where
  src : ∃ (a : Nat) (h : Int), 0 ≤ h ∧ h < 18446744073709551616 ∧ a ≤ n ∧ Blk w S 54 #[.slice A n c, .int .i64 a, .int .u64 h]
  below : Below B w0 w
  hS : B ≤ S
/-- It returned a number and drew from the source alone. -/
def Dcw (w0 : World) (B S : Nat) (A : Option Addr) (n c : Nat) (w : World) (p : Int → Prop) (e : Ending) (w' : World) : Prop :=
  ∃ x, e = .returned (.int .i64 x) ∧ p x ∧ Dce w0 B S A n c w' ∧ w.grownBy w' (some S)

theorem Dce.lt {w0 w : World} {B S : Nat} {A : Option Addr} {n c : Nat} (h : Dce w0 B S A n c w) : S < w.heap.size := by obtain ⟨⟨a, g, _, _, _, hb⟩, _, _⟩ := h; exact hb.lt
theorem Dce.alloc {w0 w : World} {B S : Nat} {A : Option Addr} {n c : Nat} (h : Dce w0 B S A n c w) (o : Obj) : Dce w0 B S A n c (w.alloc o) := by
  have hl := h.lt
  obtain ⟨⟨a, g, g0, g1, ha, hb⟩, hbe, hS⟩ := h
  exact ⟨⟨a, g, g0, g1, ha, hb.alloc o⟩, hbe.alloc (by omega) o, hS⟩
theorem Dce.drewN {w0 w : World} {B S : Nat} {A : Option Addr} {n c : Nat} (h : Dce w0 B S A n c w) (m : Nat) : Dce w0 B S A n c (w.drewN m) := by
  obtain ⟨⟨a, g, g0, g1, ha, hb⟩, hbe, hS⟩ := h
  exact ⟨⟨a, g, g0, g1, ha, hb⟩, below_drewN hbe m, hS⟩
set_option maxRecDepth 100000 in
set_option maxHeartbeats 2000000 in
theorem dice_any (w0 w : World) (B S : Nat) (A : Option Addr) (n c : Nat) (bs : List Int) (hb : SlB w0 B A n c bs) (hn : n ≤ 1073741824) (hs : Dce w0 B S A n c w) (m : Int) (hm : i64ok m) :
    Calls Tryz.prog 13 #[.pointer (some ⟨S, 0, none⟩), .int .i64 m] w (Dcw w0 B S A n c w (fun x => 0 ≤ x ∧ (1 ≤ m → x < m) ∧ x ≤ 16777470)) := by
  by_cases h1 : m < 1
  · go_enter Tryz.func13, Tryz.ntmps13
    go_wp2_with fail
    go_ret
    exact ⟨0, rfl, ⟨by omega, fun h => by omega, by omega⟩, hs, World.grownBy.refl _ _⟩
  · obtain ⟨⟨a, h, h0, h2, ha, hS⟩, hbe, hBS⟩ := hs
    obtain ⟨g, hg⟩ : ∃ g, IntKind.u64.wrap (h * 6364136223846793005) = g := ⟨_, rfl⟩
    obtain ⟨k, hk⟩ : ∃ k, IntKind.u64.wrap (g + 1442695040888963407) = k := ⟨_, rfl⟩
    obtain ⟨k0, k1⟩ := wr_u64 (g + 1442695040888963407)
    rw [hk] at k0 k1
    have hx := mask24 k k0 k1
    obtain ⟨x, ex⟩ : ∃ x, k / 8589934592 % 16777216 = x := ⟨_, rfl⟩
    have x0 : 0 ≤ x ∧ x ≤ 16777215 := by omega
    rw [ex] at hx
    have hx2 : wrap64 x = x := wrap64_ok _ ⟨by omega, by omega⟩
    clear ex
    have bS1 : Blk (w.setCell ⟨S, 2, none⟩ (.int .u64 k)) S 54 #[.slice A n c, .int .i64 a, .int .u64 k] := hS.store 2 (.int .u64 k)
    have HG0 := hide (hS.setCell_grown 2 (.int .u64 k))
    obtain ⟨W1, hW1⟩ : ∃ W1, w.setCell ⟨S, 2, none⟩ (.int .u64 k) = W1 := ⟨_, rfl⟩
    have HB1 := hide (show Below B w0 W1 by rw [← hW1]; exact hbe.setCell hBS _)
    rw [hW1] at bS1 HG0
    have x0 := hS.cell 0
    have x1 := hS.cell 1
    have x2 := hS.cell 2
    have f2 := hS.frozen 2
    go_enter Tryz.func13, Tryz.ntmps13
    have y0 := bS1.cell 0
    have y1 := bS1.cell 1
    have y2 := bS1.cell 2
    go_wp2_with fail
    clear hW1 x0 x1 x2 f2 hS hbe
    refine wp_region_dr [0, 1, 2, 3, 4, 5, 6, 7, 8, 9] 10 W1 (by kernel_rfl) (by kernel_rfl) (by kernel_rfl) (fun _ _ _ _ _ h => h) (Dr.refl _) (fun wd hDr => ?_)
    repeat (first | (apply ord_tk rfl (by rfl) (by rfl) (by rfl); (focus (rintro w ⟨dm, rfl⟩; go_simp; (try with_reducible rfl))); (try simp only [Act.put, List.setIfInBounds_toArray, List.set_cons_zero, List.set_cons_succ])) | (apply ord_skip rfl (by rfl) (by rfl) (fun _ => hDr); (try simp only [Act.put, List.setIfInBounds_toArray, List.set_cons_zero, List.set_cons_succ])))
    refine ord_nil ?_
    have t3 : ¬ m = 0 := by omega
    by_cases hlt : a < n
    · obtain ⟨b, off, rfl, hbb, hc⟩ := hb.at_ (by omega)
      have c1 := (HB1.out.cell (p := ⟨b, off + a, none⟩) hbb).trans (hc a hlt)
      have y0 := hb.rng _ (gi_mem (show a < bs.length by rw [hb.len]; exact hlt))
      obtain ⟨y, ey⟩ : ∃ y, gi bs a = y := ⟨_, rfl⟩
      rw [ey] at c1 y0
      clear hc ey
      have i1 : (a : Int) < (n : Int) := by omega
      have i0 : 0 ≤ (a : Int) := by omega
      have v0 : IntKind.i64.wrap y = y := wr64 _ ⟨by omega, by omega⟩
      have v1 : IntKind.i64.wrap (x + y) = x + y := wr64 _ ⟨by omega, by omega⟩
      have v2 : (x + y).tmod m = (x + y) % m := Int.tmod_eq_emod_of_nonneg (by omega)
      have m0 := Int.emod_nonneg (x + y) t3
      have m1 := Int.emod_lt_of_pos (x + y) (show 0 < m by omega)
      have m2 : (x + y) % m ≤ 16777470 := by have := emod_le (show 0 ≤ x + y by omega) (show 0 < m by omega); omega
      obtain ⟨r, hr⟩ : ∃ r, (x + y) % m = r := ⟨_, rfl⟩
      rw [hr] at v2 m0 m1 m2
      clear hr
      have hcap := hb.cap
      go_wp2_with fail
      refine wp_region_dr [0, 1, 2, 3, 4, 5, 6, 7, 8, 9, 10, 11, 12, 13] 13 W1 (by kernel_rfl) (by kernel_rfl) (by kernel_rfl) (fun _ _ _ _ _ h => h) hDr (fun wd hDr => ?_)
      repeat (first | (apply ord_tk rfl (by rfl) (by rfl) (by rfl); (focus (rintro w ⟨dm, rfl⟩; go_simp; (try with_reducible rfl))); (try simp only [Act.put, List.setIfInBounds_toArray, List.set_cons_zero, List.set_cons_succ])) | (apply ord_skip rfl (by rfl) (by rfl) (fun _ => hDr); (try simp only [Act.put, List.setIfInBounds_toArray, List.set_cons_zero, List.set_cons_succ])))
      refine ord_do rfl (by rfl) (by rfl) (fun K hK => ?_)
      go_simp
      refine hK.out _ _ (fun h => absurd h (by omega)) ?_
      (try simp only [Act.put, List.setIfInBounds_toArray, List.set_cons_zero, List.set_cons_succ])
      clear hK K
      refine ord_nil ?_
      have u1 : IntKind.i64.wrap ((a : Int) + 1) = ((a + 1 : Nat) : Int) := by rw [wr64 _ ⟨by omega, by omega⟩]; omega
      have f1 := bS1.frozen 1
      obtain ⟨dm, rfl⟩ := hDr
      go_wp2_with fail
      go_ret
      have bS2 : Blk (W1.drewN dm) S 54 #[.slice (some ⟨b, off, none⟩) n c, .int .i64 a, .int .u64 k] := bS1
      refine ⟨r, rfl, ⟨m0, fun _ => m1, m2⟩, ⟨⟨a + 1, k, k0, k1, by omega, bS2.store 1 (.int .i64 ((a + 1 : Nat) : Int))⟩, (below_drewN HB1.out dm).setCell hBS _, hBS⟩, ?_⟩
      exact (HG0.out.trans (⟨rfl, rfl, rfl, Nat.le_refl _, fun _ _ _ => rfl⟩ : W1.grownBy (W1.drewN dm) (some S))).trans (bS2.setCell_grown 1 _)
    · have hna : a = n := by omega
      have v2 : x.tmod m = x % m := Int.tmod_eq_emod_of_nonneg (by omega)
      have m0 := Int.emod_nonneg x t3
      have m1 := Int.emod_lt_of_pos x (show 0 < m by omega)
      have m2 : x % m ≤ 16777470 := by have := emod_le (show 0 ≤ x by omega) (show 0 < m by omega); omega
      obtain ⟨dm, rfl⟩ := hDr
      go_wp2_with fail
      go_ret
      refine ⟨x % m, rfl, ⟨m0, fun _ => m1, m2⟩, ⟨⟨a, k, k0, k1, ha, bS1⟩, below_drewN HB1.out dm, hBS⟩, ?_⟩
      exact HG0.out.trans (⟨rfl, rfl, rfl, Nat.le_refl _, fun _ _ _ => rfl⟩ : W1.grownBy (W1.drewN dm) (some S))

/-- It made a source. -/
def Dcf (w : World) (A : Option Addr) (n c : Nat) (e : Ending) (w' : World) : Prop := ∃ S, e = .returned (.pointer (some ⟨S, 0, none⟩)) ∧ Dce w w.heap.size S A n c w'
set_option maxRecDepth 100000 in
set_option maxHeartbeats 2000000 in
theorem roll_any (w : World) (A : Option Addr) (n c : Nat) (bs : List Int) (hb : SlB w w.heap.size A n c bs) (hn : n ≤ 4096) (sd : Int) : Calls Tryz.prog 12 #[.slice A n c, .int .u64 sd] w (Dcf w A n c) := by
  have v0 : IntKind.u64.wrap (n : Int) = n := wraps63 _ (by omega) (by omega)
  obtain ⟨h7, hh7⟩ : ∃ h7, IntKind.u64.wrap (sd * 6007) = h7 := ⟨_, rfl⟩
  obtain ⟨h8, hh8⟩ : ∃ h8, IntKind.u64.wrap (h7 + (n : Int)) = h8 := ⟨_, rfl⟩
  have hr8 : 0 ≤ h8 ∧ h8 < 18446744073709551616 := by rw [← hh8]; exact wr_u64 _
  go_enter Tryz.func12, Tryz.ntmps12
  go_wp2_with fail
  go_loopw [6] (fun i wr => ∃ k : Nat, k ≤ n ∧ i = .int .i64 k ∧ Dce w w.heap.size w.heap.size A n c wr) (fun i _ => n - (intOf i).toNat)
  case atStart => exact ⟨0, by omega, rfl, ⟨⟨0, h8, hr8.1, hr8.2, by omega, Blk.new _ _ _⟩, (by repeat (first | assumption | exact Below.refl _ _ | apply below_drewN | apply Below.drew | apply Below.alloc | apply Below.setCell | omega | (focus (simp; done)) | (focus (simp; omega)))), Nat.le_refl _⟩⟩
  case round =>
    clear v0
    obtain ⟨k, hk, rfl, ⟨⟨a, h, h0, h2, ha, hS⟩, hbe, hBS⟩⟩ := hrel
    by_cases hlt : k < n
    · obtain ⟨b, off, rfl, hbb, hc⟩ := hb.at_ (by omega)
      have c1 := (hbe.cell (p := ⟨b, off + k, none⟩) hbb).trans (hc k hlt)
      have y0 := hb.rng _ (gi_mem (show k < bs.length by rw [hb.len]; exact hlt))
      obtain ⟨y, ey⟩ : ∃ y, gi bs k = y := ⟨_, rfl⟩
      rw [ey] at c1 y0
      clear hc ey
      have i1 : (k : Int) < (n : Int) := by omega
      have i2 : (k : Int) < 4096 := by omega
      have v0 : IntKind.u64.wrap y = y := wraps63 _ (by omega) (by omega)
      obtain ⟨g, hg⟩ : ∃ g, IntKind.u64.wrap (h * 1099511628211) = g := ⟨_, rfl⟩
      obtain ⟨g2, hg2⟩ : ∃ g2, IntKind.u64.wrap (g + y) = g2 := ⟨_, rfl⟩
      obtain ⟨g3, hg3⟩ : ∃ g3, IntKind.u64.wrap (g2 + 5) = g3 := ⟨_, rfl⟩
      obtain ⟨k0, k1⟩ := wr_u64 (g2 + 5)
      rw [hg3] at k0 k1
      have hcap := hb.cap
      have x0 := hS.cell 0
      have x1 := hS.cell 1
      have x2 := hS.cell 2
      have f2 := hS.frozen 2
      go_wp2_with fail
      refine wp_region_dr [0, 1, 2, 3, 4, 5, 6, 7, 8, 9, 10, 11, 12, 13, 14, 15] 13 wr (by kernel_rfl) (by kernel_rfl) (by kernel_rfl) (fun _ _ _ _ _ h => h) (Dr.refl _) (fun wd hDr => ?_)
      repeat (first | (apply ord_tk rfl (by rfl) (by rfl) (by rfl); (focus (rintro w ⟨dm, rfl⟩; go_simp; (try with_reducible rfl))); (try simp only [Act.put, List.setIfInBounds_toArray, List.set_cons_zero, List.set_cons_succ])) | (apply ord_skip rfl (by rfl) (by rfl) (fun _ => hDr); (try simp only [Act.put, List.setIfInBounds_toArray, List.set_cons_zero, List.set_cons_succ])))
      obtain ⟨dm, rfl⟩ := hDr
      refine ord_do rfl (by rfl) (by rfl) (fun K hK => ?_)
      go_simp
      refine hK.out _ _ (fun h => absurd h (by omega)) ?_
      (try simp only [Act.put, List.setIfInBounds_toArray, List.set_cons_zero, List.set_cons_succ])
      clear hK K
      refine ord_do rfl (by rfl) (by rfl) (fun K hK => ?_)
      go_simp
      refine hK.out _ _ (fun h => absurd h (by omega)) ?_
      (try simp only [Act.put, List.setIfInBounds_toArray, List.set_cons_zero, List.set_cons_succ])
      clear hK K
      refine ord_do rfl (by rfl) (by rfl) (fun K hK => ?_)
      go_simp
      refine hK.out _ _ (fun h => absurd h (by omega)) ?_
      (try simp only [Act.put, List.setIfInBounds_toArray, List.set_cons_zero, List.set_cons_succ])
      clear hK K
      refine ord_nil ?_
      go_wp2_with fail
      go_roundw
      case rel =>
        have bS2 : Blk (wr.drewN dm) w.heap.size 54 #[.slice (some ⟨b, off, none⟩) n c, .int .i64 a, .int .u64 h] := hS
        exact ⟨k + 1, by omega, by go_num, ⟨⟨a, g3, k0, k1, ha, bS2.store 2 (.int .u64 g3)⟩, (below_drewN hbe dm).setCell hBS _, hBS⟩⟩
      case measure => simp [intOf] <;> omega
    · obtain rfl : k = n := by omega
      go_wp2_with fail
      go_ret
      exact ⟨w.heap.size, rfl, ⟨⟨a, h, h0, h2, ha, hS⟩, hbe, hBS⟩⟩
end Go.Proofs.YtonehmjoolflfaaGreatDoor
