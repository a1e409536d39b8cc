
/- Sources of draws, told exactly: l01From, l01Next, l01Pick, l01Count. Draws: l09Orders2, the orders of a group. Sources of draws of which the hash may be known: l01Next, l01Pick, l09Orders2. -/
import Derived.Test.YtonehmjoolflfaaGreatDoorBa
import Derived.Test.YtonehmjoolflfaaGreatDoorLa
import Derived.WalkLawsBesides
import Derived.Laws.BitsLemmas
import Derived.Laws.Bits64
import Derived.Test.YtonehmjoolflfaaGreatDoorGa
import Derived.Test.YtonehmjoolflfaaGreatDoorSa
namespace Go.Proofs.YtonehmjoolflfaaGreatDoor
open Go Go.RowKit Grp
set_option linter.unusedSimpArgs false
set_option linter.unusedVariables false

/-- A slice of bytes. -/
structure SlB (w : World) (B : Nat) (A : Option Addr) (n c : Nat) (xs : List Int) : Prop where
  len : xs.length = n
  cap : n ≤ c
  rng : ∀ x ∈ xs, 0 ≤ x ∧ x ≤ 255
  at_ : 0 < n → ∃ b off, A = some ⟨b, off, none⟩ ∧ b < B ∧ ∀ k, k < n → w.cell? ⟨b, off + k, none⟩ = some (.int .u8 (gi xs k))

/-- The next hash. -/
def tick (h : Int) : Int := IntKind.u64.wrap (IntKind.u64.wrap (h * 6364136223846793005) + 1442695040888963407)
/-- A source of draws over some bytes lies in block S with the place a and the hash h; nothing below B has changed. -/
structure SrcX (w0 : World) (B S : Nat) (A : Option Addr) (n c a : Nat) (h : Int) (w : World) : Prop where
  h0 : 0 ≤ h
  h1 : h < 18446744073709551616
  ha : a ≤ n
  blk : Blk w S 91 #[.slice A n c, .int .i64 a, .int .u64 h]
  below : Below B w0 w
  hS : B ≤ S
/-- The same, at a place that is at least lo. -/
structure Src (w0 : World) (B S : Nat) (A : Option Addr) (n c lo : Nat) (w : World) : Prop where
  src : ∃ (a : Nat) (h : Int), lo ≤ a ∧ SrcX w0 B S A n c a h w
/-- It returned a number and drew from the source alone. -/
def Drw (w0 : World) (B S : Nat) (A : Option Addr) (n c lo : Nat) (w : World) (p : Int → Prop) (e : Ending) (w' : World) : Prop :=
  ∃ x, e = .returned (.int .i64 x) ∧ p x ∧ Src w0 B S A n c lo w' ∧ w.grownBy w' (some S)
/-- It returned a number by one draw. -/
def DrX (w0 : World) (B S : Nat) (A : Option Addr) (n c a : Nat) (h : Int) (w : World) (p : Int → Prop) (e : Ending) (w' : World) : Prop :=
  ∃ x, e = .returned (.int .i64 x) ∧ p x ∧ SrcX w0 B S A n c (if a < n then a + 1 else a) (tick h) w' ∧ w.grownBy w' (some S)
section
variable {w0 w : World} {B S : Nat} {A : Option Addr} {n c a lo : Nat} {h : Int}
theorem SrcX.lt (hs : SrcX w0 B S A n c a h w) : S < w.heap.size := hs.blk.lt
theorem SrcX.alloc (hs : SrcX w0 B S A n c a h w) (o : Obj) : SrcX w0 B S A n c a h (w.alloc o) := by
  have hl := hs.lt
  have := hs.hS
  exact ⟨hs.h0, hs.h1, hs.ha, hs.blk.alloc o, hs.below.alloc (by omega) o, hs.hS⟩
theorem SrcX.drewN (hs : SrcX w0 B S A n c a h w) (m : Nat) : SrcX w0 B S A n c a h (w.drewN m) := ⟨hs.h0, hs.h1, hs.ha, hs.blk, below_drewN hs.below m, hs.hS⟩
theorem SrcX.src (hs : SrcX w0 B S A n c a h w) (hl : lo ≤ a) : Src w0 B S A n c lo w := ⟨⟨a, h, hl, hs⟩⟩
theorem Src.lt (hs : Src w0 B S A n c lo w) : S < w.heap.size := by obtain ⟨⟨a, g, _, hb⟩⟩ := hs; exact hb.lt
theorem Src.below (hs : Src w0 B S A n c lo w) : Below B w0 w := by obtain ⟨⟨a, g, _, hb⟩⟩ := hs; exact hb.below
theorem Src.hS (hs : Src w0 B S A n c lo w) : B ≤ S := by obtain ⟨⟨a, g, _, hb⟩⟩ := hs; exact hb.hS
theorem Src.alloc (hs : Src w0 B S A n c lo w) (o : Obj) : Src w0 B S A n c lo (w.alloc o) := by obtain ⟨⟨a, g, hl, hb⟩⟩ := hs; exact ⟨⟨a, g, hl, hb.alloc o⟩⟩
theorem Src.drewN (hs : Src w0 B S A n c lo w) (m : Nat) : Src w0 B S A n c lo (w.drewN m) := by obtain ⟨⟨a, g, hl, hb⟩⟩ := hs; exact ⟨⟨a, g, hl, hb.drewN m⟩⟩
theorem Src.less {lo' : Nat} (hs : Src w0 B S A n c lo w) (h : lo' ≤ lo) : Src w0 B S A n c lo' w := by obtain ⟨⟨a, g, hl, hb⟩⟩ := hs; exact ⟨⟨a, g, by omega, hb⟩⟩
theorem DrX.any {p : Int → Prop} {e : Ending} {w' : World} (hl : lo ≤ a) (h : DrX w0 B S A n c a h w p e w') : Drw w0 B S A n c lo w p e w' := by
  obtain ⟨x, h1, h2, h3, h4⟩ := h
  exact ⟨x, h1, h2, h3.src (by split <;> omega), h4⟩
end
theorem wr_u64 (n : Int) : 0 ≤ IntKind.u64.wrap n ∧ IntKind.u64.wrap n < 18446744073709551616 := by rw [IntKind.wrap_u64]; omega
theorem wraps63 (n : Int) (h0 : 0 ≤ n) (h1 : n < 2 ^ 63) : IntKind.u64.wrap n = n := by rw [IntKind.wrap_u64]; omega
theorem emod_le {x m : Int} (h0 : 0 ≤ x) (hm : 0 < m) : x % m ≤ x := by
  rcases Int.lt_or_le x m with h | h
  · rw [Int.emod_eq_of_lt h0 h]; omega
  · have := Int.emod_lt_of_pos x hm; omega
theorem mask24 (k : Int) (h0 : 0 ≤ k) (h1 : k < 18446744073709551616) : bits .and .u64 (k / 8589934592) 16777215 = k / 8589934592 % 16777216 := by
  have h := bits_mask .u64 63 (by decide) wraps63 24 (by decide) (k / 8589934592) (by omega) (by omega)
  have e : ((2 : Int) ^ 24 - 1) = 16777215 := by decide
  have e2 : ((2 : Int) ^ 24) = 16777216 := by decide
  rw [e, e2] at h
  exact h
theorem Blk.setCell_grown {w : World} {S : Nat} {t : TypeId} {cs : Array Value} (h : Blk w S t cs) (i : Nat) (v : Value) : w.grownBy (w.setCell ⟨S, i, none⟩ v) (some S) :=
  ⟨rfl, rfl, rfl, by simp [World.setCell], fun k _ hk => Below.heap_setCell _ _ _ _ (fun e => hk (by rw [e]))⟩

set_option maxRecDepth 100000 in
set_option maxHeartbeats 2000000 in
theorem l01Next_x (w0 w : World) (B S : Nat) (A : Option Addr) (n c a : Nat) (h : Int) (bs : List Int) (hb : SlB w0 B A n c bs) (hn : n ≤ 1073741824) (hs : SrcX w0 B S A n c a h w) (m : Int) (hm : i64ok m) (h1 : 1 ≤ m) :
    Calls Tryz.prog 42 #[.pointer (some ⟨S, 0, none⟩), .int .i64 m] w (DrX w0 B S A n c a h w (fun x => (0 ≤ x ∧ x < m ∧ x ≤ 16777470) ∧ (a = n → x = tick h / 8589934592 % 16777216 % m))) := by
  obtain ⟨h0, h2, ha, hS, hbe, hBS⟩ := hs
  obtain ⟨g, hg⟩ : ∃ g, IntKind.u64.wrap (h * 6364136223846793005) = g := ⟨_, rfl⟩
  obtain ⟨k, hk⟩ : ∃ k, IntKind.u64.wrap (g + 1442695040888963407) = k := ⟨_, rfl⟩
  obtain ⟨k0, k1⟩ := wr_u64 (g + 1442695040888963407)
  rw [hk] at k0 k1
  have hx := mask24 k k0 k1
  have hT : tick h = k := by unfold tick; rw [hg, hk]
  obtain ⟨x, ex⟩ : ∃ x, k / 8589934592 % 16777216 = x := ⟨_, rfl⟩
  have HX := hide ex
  have HT := hide hT
  clear hT
  have x0 : 0 ≤ x ∧ x ≤ 16777215 := by omega
  rw [ex] at hx
  have hx2 : wrap64 x = x := wrap64_ok _ ⟨by omega, by omega⟩
  clear ex
  have bS1 : Blk (w.setCell ⟨S, 2, none⟩ (.int .u64 k)) S 91 #[.slice A n c, .int .i64 a, .int .u64 k] := hS.store 2 (.int .u64 k)
  have HG0 := hide (hS.setCell_grown 2 (.int .u64 k))
  obtain ⟨W1, hW1⟩ : ∃ W1, w.setCell ⟨S, 2, none⟩ (.int .u64 k) = W1 := ⟨_, rfl⟩
  have HB1 := hide (show Below B w0 W1 by rw [← hW1]; exact hbe.setCell hBS _)
  rw [hW1] at bS1 HG0
  have x0 := hS.cell 0
  have x1 := hS.cell 1
  have x2 := hS.cell 2
  have f2 := hS.frozen 2
  go_enter Tryz.func42, Tryz.ntmps42
  have y0 := bS1.cell 0
  have y1 := bS1.cell 1
  have y2 := bS1.cell 2
  go_wp2_with fail
  clear hW1 x0 x1 x2 f2 hS hbe
  refine wp_region_dr [0, 1, 2, 3, 4, 5, 6, 7, 8, 9] 10 W1 (by kernel_rfl) (by kernel_rfl) (by kernel_rfl) (fun _ _ _ _ _ h => h) (Dr.refl _) (fun wd hDr => ?_)
  repeat (first | (apply ord_tk rfl (by rfl) (by rfl) (by rfl); (focus (rintro w ⟨dm, rfl⟩; go_simp; (try with_reducible rfl))); (try simp only [Act.put, List.setIfInBounds_toArray, List.set_cons_zero, List.set_cons_succ])) | (apply ord_skip rfl (by rfl) (by rfl) (fun _ => hDr); (try simp only [Act.put, List.setIfInBounds_toArray, List.set_cons_zero, List.set_cons_succ])))
  refine ord_nil ?_
  have t3 : ¬ m = 0 := by omega
  by_cases hlt : a < n
  · obtain ⟨b, off, rfl, hbb, hc⟩ := hb.at_ (by omega)
    have c1 := (HB1.out.cell (p := ⟨b, off + a, none⟩) hbb).trans (hc a hlt)
    have y0 := hb.rng _ (gi_mem (show a < bs.length by rw [hb.len]; exact hlt))
    obtain ⟨y, ey⟩ : ∃ y, gi bs a = y := ⟨_, rfl⟩
    rw [ey] at c1 y0
    clear hc ey
    have i1 : (a : Int) < (n : Int) := by omega
    have i0 : 0 ≤ (a : Int) := by omega
    have v0 : IntKind.i64.wrap y = y := wr64 _ ⟨by omega, by omega⟩
    have v1 : IntKind.i64.wrap (x + y) = x + y := wr64 _ ⟨by omega, by omega⟩
    have v2 : (x + y).tmod m = (x + y) % m := Int.tmod_eq_emod_of_nonneg (by omega)
    have m0 := Int.emod_nonneg (x + y) t3
    have m1 := Int.emod_lt_of_pos (x + y) (show 0 < m by omega)
    have m2 : (x + y) % m ≤ 16777470 := by have := emod_le (show 0 ≤ x + y by omega) (show 0 < m by omega); omega
    obtain ⟨r, hr⟩ : ∃ r, (x + y) % m = r := ⟨_, rfl⟩
    rw [hr] at v2 m0 m1 m2
    clear hr
    have hcap := hb.cap
    go_wp2_with fail
    refine wp_region_dr [0, 1, 2, 3, 4, 5, 6, 7, 8, 9, 10, 11, 12, 13] 13 W1 (by kernel_rfl) (by kernel_rfl) (by kernel_rfl) (fun _ _ _ _ _ h => h) hDr (fun wd hDr => ?_)
    repeat (first | (apply ord_tk rfl (by rfl) (by rfl) (by rfl); (focus (rintro w ⟨dm, rfl⟩; go_simp; (try with_reducible rfl))); (try simp only [Act.put, List.setIfInBounds_toArray, List.set_cons_zero, List.set_cons_succ])) | (apply ord_skip rfl (by rfl) (by rfl) (fun _ => hDr); (try simp only [Act.put, List.setIfInBounds_toArray, List.set_cons_zero, List.set_cons_succ])))
    refine ord_do rfl (by rfl) (by rfl) (fun K hK => ?_)
    go_simp
    refine hK.out _ _ (fun h => absurd h (by omega)) ?_
    (try simp only [Act.put, List.setIfInBounds_toArray, List.set_cons_zero, List.set_cons_succ])
    clear hK K
    refine ord_nil ?_
    have u1 : IntKind.i64.wrap ((a : Int) + 1) = ((a + 1 : Nat) : Int) := by rw [wr64 _ ⟨by omega, by omega⟩]; omega
    have f1 := bS1.frozen 1
    obtain ⟨dm, rfl⟩ := hDr
    go_wp2_with fail
    go_ret
    have bS2 : Blk (W1.drewN dm) S 91 #[.slice (some ⟨b, off, none⟩) n c, .int .i64 a, .int .u64 k] := bS1
    refine ⟨r, rfl, ⟨⟨m0, m1, m2⟩, fun h => absurd h (by omega)⟩, ?_, ?_⟩
    · rw [if_pos hlt, HT.out]
      exact ⟨k0, k1, by omega, bS2.store 1 (.int .i64 ((a + 1 : Nat) : Int)), (below_drewN HB1.out dm).setCell hBS _, hBS⟩
    exact (HG0.out.trans (⟨rfl, rfl, rfl, Nat.le_refl _, fun _ _ _ => rfl⟩ : W1.grownBy (W1.drewN dm) (some S))).trans (bS2.setCell_grown 1 _)
  · have hna : a = n := by omega
    have v2 : x.tmod m = x % m := Int.tmod_eq_emod_of_nonneg (by omega)
    have m0 := Int.emod_nonneg x t3
    have m1 := Int.emod_lt_of_pos x (show 0 < m by omega)
    have m2 : x % m ≤ 16777470 := by have := emod_le (show 0 ≤ x by omega) (show 0 < m by omega); omega
    obtain ⟨dm, rfl⟩ := hDr
    go_wp2_with fail
    go_ret
    refine ⟨x % m, rfl, ⟨⟨m0, m1, m2⟩, fun _ => by rw [HT.out, HX.out]⟩, ?_, ?_⟩
    · rw [if_neg hlt, HT.out]
      exact ⟨k0, k1, ha, bS1, below_drewN HB1.out dm, hBS⟩
    exact HG0.out.trans (⟨rfl, rfl, rfl, Nat.le_refl _, fun _ _ _ => rfl⟩ : W1.grownBy (W1.drewN dm) (some S))

set_option maxRecDepth 100000 in
set_option maxHeartbeats 2000000 in
theorem l01Next_any (w0 w : World) (B S : Nat) (A : Option Addr) (n c lo : Nat) (bs : List Int) (hb : SlB w0 B A n c bs) (hn : n ≤ 1073741824) (hs : Src w0 B S A n c lo w) (m : Int) (hm : i64ok m) :
    Calls Tryz.prog 42 #[.pointer (some ⟨S, 0, none⟩), .int .i64 m] w (Drw w0 B S A n c lo w (fun x => 0 ≤ x ∧ (1 ≤ m → x < m) ∧ x ≤ 16777470)) := by
  by_cases h1 : m < 1
  · go_enter Tryz.func42, Tryz.ntmps42
    go_wp2_with fail
    go_ret
    exact ⟨0, rfl, ⟨by omega, fun h => by omega, by omega⟩, hs, World.grownBy.refl _ _⟩
  · obtain ⟨⟨a, h, hl, hX⟩⟩ := hs
    refine (l01Next_x w0 w B S A n c a h bs hb hn hX m hm (by omega)).mono ?_
    rintro e w' ⟨x, rfl, ⟨⟨x0, x1, x2⟩, -⟩, h3, h4⟩
    exact ⟨x, rfl, ⟨x0, fun _ => x1, x2⟩, h3.src (by split <;> omega), h4⟩

theorem ints_at (ys : List Int) {k : Nat} (h : k < ys.length) : ((ys.map (Value.int .i64)).toArray)[k]? = some (.int .i64 (gi ys k)) := by
  simp [gi_get h]
set_option maxRecDepth 100000 in
set_option maxHeartbeats 2000000 in
theorem l01Pick_x (w0 w : World) (B S : Nat) (A : Option Addr) (n c a : Nat) (h : Int) (bs : List Int) (hb : SlB w0 B A n c bs) (hn : n ≤ 1073741824) (hs : SrcX w0 B S A n c a h w) (L T q : Nat) (ys : List Int) (hL : Blk w L T (ys.map (Value.int .i64)).toArray) (hne : L ≠ S) (hq : ys.length = q) (h1 : 1 ≤ q) (h2 : q ≤ 1000) :
    Calls Tryz.prog 73 #[.pointer (some ⟨S, 0, none⟩), .slice (some ⟨L, 0, none⟩) q q] w (DrX w0 B S A n c a h w (fun x => x ∈ ys)) := by
  go_enter Tryz.func73, Tryz.ntmps73
  go_wp2_with fail
  refine (l01Next_x w0 _ B S A n c a h bs hb hn hs (q : Int) ⟨by omega, by omega⟩ (by omega)).mono ?_
  rintro e w1 ⟨x, rfl, ⟨⟨x0, x1, -⟩, -⟩, hs1, hg1⟩
  obtain ⟨k, rfl⟩ := Int.eq_ofNat_of_zero_le x0
  have hk : k < q := by omega
  have c1 := ((hL.grown hg1 (fun e => hne (Option.some.inj e).symm)).cell k).trans (ints_at ys (by omega))
  have hm := hide (gi_mem (show k < ys.length by omega))
  obtain ⟨y, ey⟩ : ∃ y, gi ys k = y := ⟨_, rfl⟩
  rw [ey] at c1 hm
  clear ey
  go_wp2_with fail
  go_ret
  exact ⟨y, rfl, hm.out, hs1, hg1⟩
theorem l01Pick_any (w0 w : World) (B S : Nat) (A : Option Addr) (n c lo : Nat) (bs : List Int) (hb : SlB w0 B A n c bs) (hn : n ≤ 1073741824) (hs : Src w0 B S A n c lo w) (L T q : Nat) (ys : List Int) (hL : Blk w L T (ys.map (Value.int .i64)).toArray) (hne : L ≠ S) (hq : ys.length = q) (h1 : 1 ≤ q) (h2 : q ≤ 1000) :
    Calls Tryz.prog 73 #[.pointer (some ⟨S, 0, none⟩), .slice (some ⟨L, 0, none⟩) q q] w (Drw w0 B S A n c lo w (fun x => x ∈ ys)) := by
  obtain ⟨⟨a, h, hl, hX⟩⟩ := hs
  exact (l01Pick_x w0 w B S A n c a h bs hb hn hX L T q ys hL hne hq h1 h2).mono fun _ _ => DrX.any hl
/-- It made a source. -/
def Frm (w : World) (A : Option Addr) (n c : Nat) (e : Ending) (w' : World) : Prop := ∃ S, e = .returned (.pointer (some ⟨S, 0, none⟩)) ∧ Src w w.heap.size S A n c 0 w'
set_option maxRecDepth 100000 in
set_option maxHeartbeats 2000000 in
theorem l01From_any (w : World) (A : Option Addr) (n c : Nat) (bs : List Int) (hb : SlB w w.heap.size A n c bs) (hn : n ≤ 4096) : Calls Tryz.prog 35 #[.slice A n c] w (Frm w A n c) := by
  have v0 : IntKind.u64.wrap (n : Int) = n := wraps63 _ (by omega) (by omega)
  have v1 : IntKind.u64.wrap (7219 + (n : Int)) = 7219 + (n : Int) := wraps63 _ (by omega) (by omega)
  go_enter Tryz.func35, Tryz.ntmps35
  go_wp2_with fail
  go_loopw [4] (fun i wr => ∃ k : Nat, k ≤ n ∧ i = .int .i64 k ∧ Src w w.heap.size w.heap.size A n c 0 wr) (fun i _ => n - (intOf i).toNat)
  case atStart => exact ⟨0, by omega, rfl, ⟨⟨0, 7219 + (n : Int), by omega, by omega, by omega, by omega, Blk.new _ _ _, (by repeat (first | assumption | exact Below.refl _ _ | apply below_drewN | apply Below.drew | apply Below.alloc | apply Below.setCell | omega | (focus (simp; done)) | (focus (simp; omega)))), Nat.le_refl _⟩⟩⟩
  case round =>
    clear v0 v1
    obtain ⟨k, hk, rfl, ⟨⟨a, h, hl, h0, h2, ha, hS, hbe, hBS⟩⟩⟩ := hrel
    by_cases hlt : k < n
    · obtain ⟨b, off, rfl, hbb, hc⟩ := hb.at_ (by omega)
      have c1 := (hbe.cell (p := ⟨b, off + k, none⟩) hbb).trans (hc k hlt)
      have y0 := hb.rng _ (gi_mem (show k < bs.length by rw [hb.len]; exact hlt))
      obtain ⟨y, ey⟩ : ∃ y, gi bs k = y := ⟨_, rfl⟩
      rw [ey] at c1 y0
      clear hc ey
      have i1 : (k : Int) < (n : Int) := by omega
      have i2 : (k : Int) < 4096 := by omega
      have v0 : IntKind.u64.wrap y = y := wraps63 _ (by omega) (by omega)
      obtain ⟨g, hg⟩ : ∃ g, IntKind.u64.wrap (h * 1099511628211) = g := ⟨_, rfl⟩
      obtain ⟨g2, hg2⟩ : ∃ g2, IntKind.u64.wrap (g + y) = g2 := ⟨_, rfl⟩
      obtain ⟨g3, hg3⟩ : ∃ g3, IntKind.u64.wrap (g2 + 11) = g3 := ⟨_, rfl⟩
      obtain ⟨k0, k1⟩ := wr_u64 (g2 + 11)
      rw [hg3] at k0 k1
      have hcap := hb.cap
      have x0 := hS.cell 0
      have x1 := hS.cell 1
      have x2 := hS.cell 2
      have f2 := hS.frozen 2
      go_wp2_with fail
      refine wp_region_dr [0, 1, 2, 3, 4, 5, 6, 7, 8, 9, 10, 11, 12, 13, 14, 15] 13 wr (by kernel_rfl) (by kernel_rfl) (by kernel_rfl) (fun _ _ _ _ _ h => h) (Dr.refl _) (fun wd hDr => ?_)
      repeat (first | (apply ord_tk rfl (by rfl) (by rfl) (by rfl); (focus (rintro w ⟨dm, rfl⟩; go_simp; (try with_reducible rfl))); (try simp only [Act.put, List.setIfInBounds_toArray, List.set_cons_zero, List.set_cons_succ])) | (apply ord_skip rfl (by rfl) (by rfl) (fun _ => hDr); (try simp only [Act.put, List.setIfInBounds_toArray, List.set_cons_zero, List.set_cons_succ])))
      obtain ⟨dm, rfl⟩ := hDr
      refine ord_do rfl (by rfl) (by rfl) (fun K hK => ?_)
      go_simp
      refine hK.out _ _ (fun h => absurd h (by omega)) ?_
      (try simp only [Act.put, List.setIfInBounds_toArray, List.set_cons_zero, List.set_cons_succ])
      clear hK K
      refine ord_do rfl (by rfl) (by rfl) (fun K hK => ?_)
      go_simp
      refine hK.out _ _ (fun h => absurd h (by omega)) ?_
      (try simp only [Act.put, List.setIfInBounds_toArray, List.set_cons_zero, List.set_cons_succ])
      clear hK K
      refine ord_do rfl (by rfl) (by rfl) (fun K hK => ?_)
      go_simp
      refine hK.out _ _ (fun h => absurd h (by omega)) ?_
      (try simp only [Act.put, List.setIfInBounds_toArray, List.set_cons_zero, List.set_cons_succ])
      clear hK K
      refine ord_nil ?_
      go_wp2_with fail
      go_roundw
      case rel =>
        have bS2 : Blk (wr.drewN dm) w.heap.size 91 #[.slice (some ⟨b, off, none⟩) n c, .int .i64 a, .int .u64 h] := hS
        exact ⟨k + 1, by omega, by go_num, ⟨⟨a, g3, hl, k0, k1, ha, bS2.store 2 (.int .u64 g3), (below_drewN hbe dm).setCell hBS _, hBS⟩⟩⟩
      case measure => simp [intOf] <;> omega
    · obtain rfl : k = n := by omega
      go_wp2_with fail
      go_ret
      exact ⟨w.heap.size, rfl, ⟨⟨a, h, hl, h0, h2, ha, hS, hbe, hBS⟩⟩⟩
theorem big_any (w : World) (A : Option Addr) (n c : Nat) : Calls Tryz.prog 4 #[.slice A n c] w (Qt w (.bool (decide (4096 < (n : Int))))) := by
  go_enter Tryz.func4, Tryz.ntmps4
  go_wp2_with fail
  go_ret
  exact Qt.same

theorem grown_below {w w1 w2 : World} {row : Option Nat} (h : w.grownBy w1 row) (k : Below w.heap.size w1 w2) : w.grownBy w2 row :=
  ⟨k.os.trans h.os, k.tape.trans h.tape, k.output.trans h.output, Nat.le_trans h.size k.size, fun b hb hne => (k.block b hb).trans (h.block b hb hne)⟩
theorem pick_mem {ys : List Int} {x lo hi : Int} (hx : x ∈ ys) (h : (ys.all fun y => decide (lo ≤ y) && decide (y ≤ hi)) = true) : lo ≤ x ∧ x ≤ hi := by
  have := List.all_eq_true.1 h x hx
  simpa using this
/-- It drew a list of its own. -/
def DrO (w0 : World) (B S : Nat) (A : Option Addr) (n c lo : Nat) (w : World) (P : List Int → Prop) (e : Ending) (w' : World) : Prop :=
  ∃ v os, e = .returned v ∧ Ow w' w.heap.size v os ∧ P os ∧ Src w0 B S A n c lo w' ∧ w.grownBy w' (some S)
theorem SrcX.push {w0 w w' : World} {B C S : Nat} {A : Option Addr} {n c a : Nat} {h : Int} {v : Value} {xs : List Int} {y : Int} {H g cap : Nat} (hs : SrcX w0 B S A n c a h w) (hP : Pushed w C v xs y H g cap w') (hO : Ow w C v xs) (hBC : B ≤ C) (hC : C ≤ w.heap.size) : SrcX w0 B S A n c a h w' :=
  ⟨hs.h0, hs.h1, hs.ha, hP.blk hO hs.blk (by decide), hs.below.trans ((hP.below hO hC).mono hBC), hs.hS⟩
theorem SrcX.ne {w0 w : World} {B S C : Nat} {A : Option Addr} {n c a : Nat} {h : Int} {v : Value} {xs : List Int} (hs : SrcX w0 B S A n c a h w) (hO : Ow w C v xs) : ∀ b, v.ownBlock = some b → some S ≠ some b := by
  intro b hb' e
  exact hO.blk_ne hs.blk (by decide) (by rw [hb']; exact e.symm)
theorem Src.push {w0 w w' : World} {B C S : Nat} {A : Option Addr} {n c lo : Nat} {v : Value} {xs : List Int} {y : Int} {H g cap : Nat} (h : Src w0 B S A n c lo w) (hP : Pushed w C v xs y H g cap w') (hO : Ow w C v xs) (hBC : B ≤ C) (hC : C ≤ w.heap.size) : Src w0 B S A n c lo w' := by
  obtain ⟨⟨a, g, hl, h⟩⟩ := h
  exact ⟨⟨a, g, hl, h.push hP hO hBC hC⟩⟩
theorem Src.ne {w0 w : World} {B S C : Nat} {A : Option Addr} {n c lo : Nat} {v : Value} {xs : List Int} (h : Src w0 B S A n c lo w) (hO : Ow w C v xs) : ∀ b, v.ownBlock = some b → some S ≠ some b := by
  obtain ⟨⟨a, g, hl, h⟩⟩ := h
  exact h.ne hO
/-- The draws so far. -/
structure OrdD (w0 : World) (B S : Nat) (A : Option Addr) (n c lo : Nat) (w : World) (most : Int) (vv : Value) (os : List Int) (sz : Int) (wr : World) : Prop where
  own : Ow wr w.heap.size vv os
  src : Src w0 B S A n c lo wr
  keep : w.grownBy wr (some S)
  rng : ∀ x ∈ os, 2 ≤ x ∧ x ≤ 12
  prod : prodL os = sz
theorem prodL_one (os : List Int) (x : Int) : prodL (os ++ [x]) = prodL os * x := prodL_snoc os x
def OrdP (most : Int) (os : List Int) : Prop := (∀ x ∈ os, 2 ≤ x ∧ x ≤ 12) ∧ os.length ≤ 3 ∧ 1 ≤ prodL os ∧ (prodL os = 1 ∨ prodL os ≤ most) ∧ (2 ≤ most → os ≠ [])

set_option maxRecDepth 100000 in
set_option maxHeartbeats 4000000 in
theorem orders2_any (w0 w : World) (B S : Nat) (A : Option Addr) (n c lo : Nat) (bs : List Int) (hb : SlB w0 B A n c bs) (hn : n ≤ 1073741824) (hs : Src w0 B S A n c lo w) (hBw : B ≤ w.heap.size) (most : Int) (hm0 : 0 ≤ most) (hm : most ≤ 1000) :
    Calls Tryz.prog 84 #[.pointer (some ⟨S, 0, none⟩), .int .i64 most] w (DrO w0 B S A n c lo w (OrdP most)) := by
  go_enter Tryz.func84, Tryz.ntmps84
  have hE : Ow (w.alloc (.cells #[] 2)) w.heap.size (.slice (some ⟨w.heap.size, 0, none⟩) 0 0) [] := Ow.made' (xs := []) w #[] w.heap.size 0 rfl rfl (Nat.le_refl _) rfl (by unfold maxLen; omega)
  have hs0 := hs.alloc (.cells #[] 2)
  go_wp2_with fail
  refine (l01Next_any w0 _ B S A n c lo bs hb hn hs0 3 ⟨by omega, by omega⟩).mono ?_
  rintro e w1 ⟨x, rfl, ⟨x0, x1, -⟩, hs1, hg1⟩
  have x1 := x1 (by omega)
  have hE1 := hE.far hg1 (hs0.ne hE)
  obtain ⟨K, hK⟩ : ∃ K : Nat, 1 + x = K := ⟨(1 + x).toNat, by omega⟩
  have hK1 : 1 ≤ K := by omega
  have hK3 : K ≤ 3 := by omega
  have v1 : IntKind.i64.wrap (1 + x) = K := by rw [wr64 _ ⟨by omega, by omega⟩]; exact hK
  clear hK
  go_wp2_with fail
  clear v1
  have hk0 := (World.grownBy_alloc w (.cells #[] 2) (some S)).trans hg1
  go_loopw [7, 5, 6] (fun k v s wr => ∃ (k' : Nat) (vv : Value) (os : List Int) (sz : Int), k' ≤ K ∧ k = .int .i64 k' ∧ vv = v ∧ s = .int .i64 sz ∧ os.length + k' ≤ K ∧ 1 ≤ sz ∧ (sz = 1 ∨ sz ≤ most) ∧ (2 ≤ most → k' < K → os ≠ []) ∧ OrdD w0 B S A n c lo w most vv os sz wr) (fun k _ _ _ => (intOf k).toNat)
  case atStart => exact ⟨K, _, [], 1, by omega, rfl, rfl, rfl, by simp, by omega, .inl rfl, fun _ h => absurd h (by omega), ⟨hE1, hs1, hk0, by simp, rfl⟩⟩
  case round =>
    clear hE hE1 hs0 hs1 hg1 hk0
    obtain ⟨k, vv, os, sz, hk, rfl, rfl, rfl, hlen, hs1, hsm, hne, hD⟩ := hrel
    by_cases hlt : 0 < k
    · go_wp2_with fail
      refine (l01Pick_any w0 _ B S A n c lo bs hb hn (hD.src.alloc _) wr.heap.size 2 4 [2, 3, 5, 9] (Blk.new _ _ _) (by have := hD.src.lt; omega) rfl (by omega) (by omega)).mono ?_
      rintro e w3 ⟨y, rfl, hy, hs3, hg3⟩
      have hy2 : 2 ≤ y ∧ y ≤ 9 := pick_mem hy (by decide)
      clear hy
      obtain ⟨Ao, co, rfl⟩ := hD.own.val
      go_wp2_with fail
      refine (l01Next_any w0 _ B S A n c lo bs hb hn hs3 y ⟨by omega, by omega⟩).mono ?_
      rintro e w4 ⟨z, rfl, ⟨z0, z1, -⟩, hs4, hg4⟩
      have z1 := z1 (by omega)
      have hg34 := ((World.grownBy_alloc wr (.cells #[.int .i64 2, .int .i64 3, .int .i64 5, .int .i64 9] 2) (some S)).trans hg3).trans hg4
      replace hD : OrdD w0 B S A n c lo w most (.slice Ao os.length co) os sz w4 := ⟨hD.own.far hg34 (hD.src.ne hD.own), hs4, hD.keep.trans hg34, hD.rng, hD.prod⟩
      clear hs3 hg3 hs4 hg4 hg34
      obtain ⟨o, ho⟩ : ∃ o, 2 + z = o := ⟨_, rfl⟩
      have o2 : 2 ≤ o ∧ o ≤ 10 := by omega
      have v1 : IntKind.i64.wrap (2 + z) = o := by rw [ho]; exact wr64 _ ⟨by omega, by omega⟩
      clear ho
      have hszm : sz ≤ 1000 := by omega
      have p1 : 0 ≤ sz * o := Int.mul_nonneg (by omega) (by omega)
      have p2 : sz * o ≤ 1000 * 10 := Int.mul_le_mul hszm o2.2 (by omega) (by omega)
      have v2 : IntKind.i64.wrap ((k : Int) - 1) = ((k - 1 : Nat) : Int) := by rw [wr64 _ ⟨by omega, by omega⟩]; omega
      have p3 : sz * 1 ≤ sz * o := Int.mul_le_mul (Int.le_refl _) (by omega) (by omega) (by omega)
      obtain ⟨P, hP⟩ : ∃ P, sz * o = P := ⟨_, rfl⟩
      have hPe := hide hP
      rw [hP] at p1 p2 p3
      have v3 : IntKind.i64.wrap (sz * o) = P := by rw [hP]; exact wr64 _ ⟨by omega, by omega⟩
      have q1 : o ≤ 12 := by omega
      by_cases hle : P ≤ most
      · clear hP
        have hlen4 : (os.length : Int) < 4 := by omega
        have hJ := hD.own.alloc (.cells #[.int .i64 (o)] 2)
        have hsrc := hD.src.alloc (.cells #[.int .i64 (o)] 2)
        have hkz := hD.keep.size
        go_wp2_with (at_builtin; refine list_push _ rfl _ _ rfl w.heap.size _ os rfl hJ (o) _ _ rfl (Blk.new _ _ _) (by omega) (by simp; omega) (by simp) ?_; intro g2 cap w6 hP)
        go_roundw
        case rel => exact ⟨k - 1, _, os ++ [o], P, by omega, by go_num, rfl, rfl, by simp; omega, by omega, .inr (by omega), fun _ _ => by simp, ⟨hP.own, hsrc.push hP hJ hBw (by simp; omega), grown_below (hD.keep.trans (World.grownBy_alloc _ _ _)) (hP.below hJ (by simp; omega)), fun x hx => by rcases List.mem_append.1 hx with h | h; exact hD.rng x h; simp at h; omega, ((prodL_one os (o)).trans (congrArg (· * (o)) hD.prod)).trans hPe.out⟩⟩
        case measure => simp [intOf] <;> omega
      · clear hPe hP
        by_cases hle2 : sz * 2 ≤ most
        · skip
          have hlen4 : (os.length : Int) < 4 := by omega
          have hJ := hD.own.alloc (.cells #[.int .i64 (2)] 2)
          have hsrc := hD.src.alloc (.cells #[.int .i64 (2)] 2)
          have hkz := hD.keep.size
          go_wp2_with (at_builtin; refine list_push _ rfl _ _ rfl w.heap.size _ os rfl hJ (2) _ _ rfl (Blk.new _ _ _) (by omega) (by simp; omega) (by simp) ?_; intro g2 cap w6 hP)
          go_roundw
          case rel => exact ⟨k - 1, _, os ++ [2], sz * 2, by omega, by go_num, rfl, rfl, by simp; omega, by omega, .inr (by omega), fun _ _ => by simp, ⟨hP.own, hsrc.push hP hJ hBw (by simp; omega), grown_below (hD.keep.trans (World.grownBy_alloc _ _ _)) (hP.below hJ (by simp; omega)), fun x hx => by rcases List.mem_append.1 hx with h | h; exact hD.rng x h; simp at h; omega, ((prodL_one os (2)).trans (congrArg (· * (2)) hD.prod)).trans rfl⟩⟩
          case measure => simp [intOf] <;> omega
        · have hne' : 2 ≤ most → os ≠ [] := fun h e => by
            have := hD.prod
            rw [e] at this
            simp only [prodL] at this
            omega
          go_wp2_with fail
          go_roundw
          case rel => exact ⟨k - 1, _, os, sz, by omega, by go_num, rfl, rfl, by omega, hs1, hsm, fun h _ => hne' h, hD⟩
          case measure => simp [intOf] <;> omega
    · obtain rfl : k = 0 := by omega
      go_wp2_with fail
      go_ret
      refine ⟨vv, os, rfl, hD.own, ⟨hD.rng, by omega, by rw [hD.prod]; omega, by rw [hD.prod]; exact hsm, fun h => hne h (by omega)⟩, hD.src, hD.keep⟩
/-- So many draws on, the code used up. -/
def ticks (h : Int) : Nat → Int
  | 0 => h
  | k + 1 => tick (ticks h k)
set_option maxRecDepth 100000 in
set_option maxHeartbeats 4000000 in
/-- With most below 2 no order is drawn; all draws are told. -/
theorem orders2_x (w0 w : World) (B S : Nat) (A : Option Addr) (n c : Nat) (h : Int) (bs : List Int) (hb : SlB w0 B A n c bs) (hn : n ≤ 1073741824) (hs : SrcX w0 B S A n c n h w) (hBw : B ≤ w.heap.size) (most : Int) (hm0 : 0 ≤ most) (hm : most ≤ 1) :
    Calls Tryz.prog 84 #[.pointer (some ⟨S, 0, none⟩), .int .i64 most] w (fun e w' => ∃ v, e = .returned v ∧ Ow w' w.heap.size v [] ∧ SrcX w0 B S A n c n (ticks h (3 + 2 * (tick h / 8589934592 % 16777216 % 3).toNat)) w' ∧ w.grownBy w' (some S)) := by
  go_enter Tryz.func84, Tryz.ntmps84
  have hE : Ow (w.alloc (.cells #[] 2)) w.heap.size (.slice (some ⟨w.heap.size, 0, none⟩) 0 0) [] := Ow.made' (xs := []) w #[] w.heap.size 0 rfl rfl (Nat.le_refl _) rfl (by unfold maxLen; omega)
  have hs0 := hs.alloc (.cells #[] 2)
  go_wp2_with fail
  refine (l01Next_x w0 _ B S A n c n h bs hb hn hs0 3 ⟨by omega, by omega⟩ (by omega)).mono ?_
  rintro e w1 ⟨x, rfl, ⟨⟨x0, x1, -⟩, hx⟩, hs1, hg1⟩
  replace hx := hx rfl
  rw [if_neg (Nat.lt_irrefl n)] at hs1
  have hE1 := hE.far hg1 (hs0.ne hE)
  obtain ⟨K, hK⟩ : ∃ K : Nat, 1 + x = K := ⟨(1 + x).toNat, by omega⟩
  have hK1 : 1 ≤ K := by omega
  have hK3 : K ≤ 3 := by omega
  have HX := hide (show 3 + 2 * (tick h / 8589934592 % 16777216 % 3).toNat = 1 + 2 * K by rw [← hx]; omega)
  have v1 : IntKind.i64.wrap (1 + x) = K := by rw [wr64 _ ⟨by omega, by omega⟩]; exact hK
  clear hK hx
  go_wp2_with fail
  clear v1
  have hk0 := (World.grownBy_alloc w (.cells #[] 2) (some S)).trans hg1
  go_loopw [7, 5, 6] (fun k v s wr => ∃ (k' : Nat) (vv : Value), k' ≤ K ∧ k = .int .i64 k' ∧ vv = v ∧ s = .int .i64 1 ∧ Ow wr w.heap.size vv [] ∧ SrcX w0 B S A n c n (ticks h (1 + 2 * (K - k'))) wr ∧ w.grownBy wr (some S)) (fun k _ _ _ => (intOf k).toNat)
  case atStart => exact ⟨K, _, by omega, rfl, rfl, rfl, hE1, by rw [show 1 + 2 * (K - K) = 1 by omega]; exact hs1, hk0⟩
  case round =>
    clear hE hE1 hs0 hs1 hg1 hk0
    obtain ⟨k, vv, hk, rfl, rfl, rfl, hO, hsr, hkp⟩ := hrel
    by_cases hlt : 0 < k
    · go_wp2_with fail
      refine (l01Pick_x w0 _ B S A n c n _ bs hb hn (hsr.alloc _) wr.heap.size 2 4 [2, 3, 5, 9] (Blk.new _ _ _) (by have := hsr.lt; omega) rfl (by omega) (by omega)).mono ?_
      rintro e w3 ⟨y, rfl, hy, hs3, hg3⟩
      rw [if_neg (Nat.lt_irrefl n)] at hs3
      have hy2 : 2 ≤ y ∧ y ≤ 9 := pick_mem hy (by decide)
      clear hy
      obtain ⟨Ao, co, rfl⟩ := hO.val
      go_wp2_with fail
      refine (l01Next_x w0 _ B S A n c n _ bs hb hn hs3 y ⟨by omega, by omega⟩ (by omega)).mono ?_
      rintro e w4 ⟨z, rfl, ⟨⟨z0, z1, -⟩, -⟩, hs4, hg4⟩
      rw [if_neg (Nat.lt_irrefl n)] at hs4
      have hg34 := ((World.grownBy_alloc wr (.cells #[.int .i64 2, .int .i64 3, .int .i64 5, .int .i64 9] 2) (some S)).trans hg3).trans hg4
      have hO4 : Ow w4 w.heap.size (.slice Ao [].length co) [] := hO.far hg34 (hsr.ne hO)
      have hs5 : SrcX w0 B S A n c n (ticks h (1 + 2 * (K - (k - 1)))) w4 := by
        rw [show 1 + 2 * (K - (k - 1)) = 1 + 2 * (K - k) + 1 + 1 by omega]; exact hs4
      have hkp5 := hkp.trans hg34
      clear hs3 hg3 hs4 hg4 hg34 hO hsr hkp
      obtain ⟨o, ho⟩ : ∃ o, 2 + z = o := ⟨_, rfl⟩
      have o2 : 2 ≤ o ∧ o ≤ 10 := by omega
      have v1 : IntKind.i64.wrap (2 + z) = o := by rw [ho]; exact wr64 _ ⟨by omega, by omega⟩
      clear ho
      have v2 : IntKind.i64.wrap ((k : Int) - 1) = ((k - 1 : Nat) : Int) := by rw [wr64 _ ⟨by omega, by omega⟩]; omega
      have q1 : o ≤ 12 := by omega
      go_wp2_with fail
      go_roundw
      case rel => exact ⟨k - 1, _, by omega, by go_num, rfl, rfl, hO4, hs5, hkp5⟩
      case measure => simp [intOf] <;> omega
    · obtain rfl : k = 0 := by omega
      go_wp2_with fail
      go_ret
      exact ⟨_, rfl, hO, by rw [HX.out, show 1 + 2 * K = 1 + 2 * (K - 0) by omega]; exact hsr, hkp⟩

/-- A source at a place that is at least lo; where a hash is given, its code is used up and this is its hash. -/
structure SrcE (w0 : World) (B S : Nat) (A : Option Addr) (n c lo : Nat) (E : Option Int) (w : World) : Prop where
  src : ∃ (a : Nat) (h : Int), lo ≤ a ∧ SrcX w0 B S A n c a h w ∧ ∀ g, E = some g → a = n ∧ h = g
/-- It drew from a source whose hash may be known, and returned what is told. -/
def DrE (w0 : World) (B S : Nat) (A : Option Addr) (n c lo : Nat) (E : Option Int) (w : World) (p : Int → Prop) (e : Ending) (w' : World) : Prop :=
  ∃ x, e = .returned (.int .i64 x) ∧ p x ∧ SrcE w0 B S A n c lo E w' ∧ w.grownBy w' (some S)
/-- One place on, at most n. -/
def up (n lo : Nat) : Nat := if lo < n then lo + 1 else lo
theorem up_ge (n lo : Nat) : lo ≤ up n lo := by unfold up; split <;> omega
section
variable {w0 w w' : World} {B S : Nat} {A : Option Addr} {n c a lo : Nat} {h : Int} {E : Option Int}
theorem SrcE.lt (hs : SrcE w0 B S A n c lo E w) : S < w.heap.size := by obtain ⟨⟨a, g, _, hb, _⟩⟩ := hs; exact hb.lt
theorem SrcE.below (hs : SrcE w0 B S A n c lo E w) : Below B w0 w := by obtain ⟨⟨a, g, _, hb, _⟩⟩ := hs; exact hb.below
theorem SrcE.hS (hs : SrcE w0 B S A n c lo E w) : B ≤ S := by obtain ⟨⟨a, g, _, hb, _⟩⟩ := hs; exact hb.hS
theorem SrcE.any (hs : SrcE w0 B S A n c lo E w) : Src w0 B S A n c lo w := by obtain ⟨⟨a, g, hl, hb, _⟩⟩ := hs; exact ⟨⟨a, g, hl, hb⟩⟩
theorem Src.e (hs : Src w0 B S A n c lo w) : SrcE w0 B S A n c lo none w := by obtain ⟨⟨a, g, hl, hb⟩⟩ := hs; exact ⟨⟨a, g, hl, hb, fun g h => by cases h⟩⟩
theorem SrcX.e (hs : SrcX w0 B S A n c n h w) (hl : lo ≤ n) : SrcE w0 B S A n c lo (some h) w := ⟨⟨n, h, hl, hs, fun g e => ⟨rfl, Option.some.inj e⟩⟩⟩
theorem SrcE.x {g : Int} (hs : SrcE w0 B S A n c lo (some g) w) : SrcX w0 B S A n c n g w ∧ lo ≤ n := by
  obtain ⟨⟨a, h, hl, hb, he⟩⟩ := hs
  obtain ⟨rfl, rfl⟩ := he g rfl
  exact ⟨hb, hl⟩
theorem SrcE.alloc (hs : SrcE w0 B S A n c lo E w) (o : Obj) : SrcE w0 B S A n c lo E (w.alloc o) := by obtain ⟨⟨a, g, hl, hb, he⟩⟩ := hs; exact ⟨⟨a, g, hl, hb.alloc o, he⟩⟩
theorem SrcE.drewN (hs : SrcE w0 B S A n c lo E w) (m : Nat) : SrcE w0 B S A n c lo E (w.drewN m) := by obtain ⟨⟨a, g, hl, hb, he⟩⟩ := hs; exact ⟨⟨a, g, hl, hb.drewN m, he⟩⟩
theorem SrcE.less {lo' : Nat} (hs : SrcE w0 B S A n c lo E w) (h : lo' ≤ lo) : SrcE w0 B S A n c lo' E w := by obtain ⟨⟨a, g, hl, hb, he⟩⟩ := hs; exact ⟨⟨a, g, by omega, hb, he⟩⟩
theorem SrcE.no (hs : SrcE w0 B S A n c lo E w) : SrcE w0 B S A n c lo none w := hs.any.e
/-- What makes memory anew, or writes to memory apart from the source, leaves it. -/
theorem SrcE.all (hs : SrcE w0 B S A n c lo E w) (hb : Below w.heap.size w w') (hB : B ≤ w.heap.size) : SrcE w0 B S A n c lo E w' := by
  obtain ⟨⟨a, g, hl, h, he⟩⟩ := hs
  exact ⟨⟨a, g, hl, ⟨h.h0, h.h1, h.ha, h.blk.all hb, h.below.trans (hb.mono hB), h.hS⟩, he⟩⟩
theorem SrcE.store (hs : SrcE w0 B S A n c lo E w) {D i : Nat} (hD : D ≠ S) (hB : B ≤ D) (v : Value) : SrcE w0 B S A n c lo E (w.setCell ⟨D, i, none⟩ v) := by
  obtain ⟨⟨a, g, hl, h, he⟩⟩ := hs
  exact ⟨⟨a, g, hl, ⟨h.h0, h.h1, h.ha, h.blk.far (Ne.symm hD) _, h.below.setCell hB _, h.hS⟩, he⟩⟩
theorem SrcE.push {C : Nat} {v : Value} {xs : List Int} {y : Int} {H g cap : Nat} (h : SrcE w0 B S A n c lo E w) (hP : Pushed w C v xs y H g cap w') (hO : Ow w C v xs) (hBC : B ≤ C) (hC : C ≤ w.heap.size) : SrcE w0 B S A n c lo E w' := by
  obtain ⟨⟨a, g, hl, h, he⟩⟩ := h
  exact ⟨⟨a, g, hl, h.push hP hO hBC hC, he⟩⟩
theorem SrcE.ne {C : Nat} {v : Value} {xs : List Int} (h : SrcE w0 B S A n c lo E w) (hO : Ow w C v xs) : ∀ b, v.ownBlock = some b → some S ≠ some b := h.any.ne hO
theorem DrX.e {p : Int → Prop} {e : Ending} (hl : lo ≤ a) (hx : DrX w0 B S A n c a h w p e w') (hE : ∀ g, E = some g → a = n ∧ h = g) : DrE w0 B S A n c (up n lo) (E.map tick) w p e w' := by
  obtain ⟨x, h1, h2, h3, h4⟩ := hx
  refine ⟨x, h1, h2, ⟨⟨_, _, ?_, h3, ?_⟩⟩, h4⟩
  · unfold up; split <;> split <;> omega
  · intro g hg
    cases E with
    | none => cases hg
    | some k =>
      obtain ⟨rfl, rfl⟩ := hE k rfl
      rw [if_neg (Nat.lt_irrefl a)]
      exact ⟨rfl, Option.some.inj hg⟩
end
/-- The draw modulo m that a known hash yields. -/
def drw (h m : Int) : Int := tick h / 8589934592 % 16777216 % m
theorem l01Next_e (w0 w : World) (B S : Nat) (A : Option Addr) (n c lo : Nat) (E : Option Int) (bs : List Int) (hb : SlB w0 B A n c bs) (hn : n ≤ 1073741824) (hs : SrcE w0 B S A n c lo E w) (m : Int) (hm : i64ok m) (h1 : 1 ≤ m) :
    Calls Tryz.prog 42 #[.pointer (some ⟨S, 0, none⟩), .int .i64 m] w (DrE w0 B S A n c (up n lo) (E.map tick) w (fun x => (0 ≤ x ∧ x < m) ∧ ∀ g, E = some g → x = drw g m)) := by
  obtain ⟨⟨a, h, hl, hX, hE⟩⟩ := hs
  refine (l01Next_x w0 w B S A n c a h bs hb hn hX m hm h1).mono fun e w' hd => ?_
  have h2 := hd.e hl hE
  obtain ⟨x, e1, ⟨⟨x0, x1, _⟩, hx⟩, _, _⟩ := hd
  obtain ⟨x', e2, _, h3, h4⟩ := h2
  obtain rfl : x' = x := by rw [e1] at e2; injection e2 with e2; injection e2 with _ e2; exact e2.symm
  refine ⟨x', e1, ⟨⟨x0, x1⟩, fun g hg => ?_⟩, h3, h4⟩
  obtain ⟨ha, hh⟩ := hE g hg
  rw [hx ha, hh]; rfl
theorem l01Pick_e (w0 w : World) (B S : Nat) (A : Option Addr) (n c lo : Nat) (E : Option Int) (bs : List Int) (hb : SlB w0 B A n c bs) (hn : n ≤ 1073741824) (hs : SrcE w0 B S A n c lo E w) (L T q : Nat) (ys : List Int) (hL : Blk w L T (ys.map (Value.int .i64)).toArray) (hne : L ≠ S) (hq : ys.length = q) (h1 : 1 ≤ q) (h2 : q ≤ 1000) :
    Calls Tryz.prog 73 #[.pointer (some ⟨S, 0, none⟩), .slice (some ⟨L, 0, none⟩) q q] w (DrE w0 B S A n c (up n lo) (E.map tick) w (fun x => x ∈ ys)) := by
  obtain ⟨⟨a, h, hl, hX, hE⟩⟩ := hs
  exact (l01Pick_x w0 w B S A n c a h bs hb hn hX L T q ys hL hne hq h1 h2).mono fun e w' hd => hd.e hl hE
/-- Of the orders drawn the hash is known where most is less than 2. -/
def eOrd (most : Int) (E : Option Int) : Option Int := if most ≤ 1 then E.map fun g => ticks g (3 + 2 * (drw g 3).toNat) else none
theorem orders2_e (w0 w : World) (B S : Nat) (A : Option Addr) (n c lo : Nat) (E : Option Int) (bs : List Int) (hb : SlB w0 B A n c bs) (hn : n ≤ 1073741824) (hs : SrcE w0 B S A n c lo E w) (hBw : B ≤ w.heap.size) (most : Int) (hm0 : 0 ≤ most) (hm : most ≤ 1000) :
    Calls Tryz.prog 84 #[.pointer (some ⟨S, 0, none⟩), .int .i64 most] w (fun e w' => ∃ v os, e = .returned v ∧ Ow w' w.heap.size v os ∧ OrdP most os ∧ (most ≤ 1 → os = []) ∧ SrcE w0 B S A n c lo (eOrd most E) w' ∧ w.grownBy w' (some S)) := by
  have gen : eOrd most E = none → Calls Tryz.prog 84 #[.pointer (some ⟨S, 0, none⟩), .int .i64 most] w (fun e w' => ∃ v os, e = .returned v ∧ Ow w' w.heap.size v os ∧ OrdP most os ∧ (most ≤ 1 → os = []) ∧ SrcE w0 B S A n c lo (eOrd most E) w' ∧ w.grownBy w' (some S)) := by
    intro hE
    rw [hE]
    refine (orders2_any w0 w B S A n c lo bs hb hn hs.any hBw most hm0 hm).mono ?_
    rintro e w' ⟨v, os, h1, h2, h3, h4, h5⟩
    refine ⟨v, os, h1, h2, h3, fun h => ?_, h4.e, h5⟩
    obtain ⟨g1, g2, g3, g4, g5⟩ := h3
    cases os with
    | nil => rfl
    | cons x xs =>
      have hx := (g1 x (by simp)).1
      have hp : 1 ≤ prodL xs := prodL_pos fun y hy => by have := (g1 y (by simp [hy])).1; omega
      have : prodL (x :: xs) = x * prodL xs := rfl
      have : 2 * 1 ≤ x * prodL xs := Int.mul_le_mul hx hp (by omega) (by omega)
      omega
  by_cases h1 : most ≤ 1
  · cases E with
    | none => exact gen (by unfold eOrd; rw [if_pos h1]; rfl)
    | some g =>
      obtain ⟨hX, hl⟩ := hs.x
      refine (orders2_x w0 w B S A n c g bs hb hn hX hBw most hm0 h1).mono ?_
      rintro e w' ⟨v, h2, h3, h4, h5⟩
      refine ⟨v, [], h2, h3, ⟨by simp, by simp, by simp [prodL], .inl rfl, fun h => by omega⟩, fun _ => rfl, ?_, h5⟩
      unfold eOrd
      rw [if_pos h1]
      exact h4.e hl
  · exact gen (by unfold eOrd; rw [if_neg h1])
end Go.Proofs.YtonehmjoolflfaaGreatDoor
