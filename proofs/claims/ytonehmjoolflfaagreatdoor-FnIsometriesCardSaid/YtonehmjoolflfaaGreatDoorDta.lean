
/- l10Small ends, whatever the code and the hash. Draws: l10Draw, l10Spoil, l10Number. -/
import Derived.Test.YtonehmjoolflfaaGreatDoorDS
import Derived.Test.YtonehmjoolflfaaGreatDoorZB
import Derived.WalkLawsBesides
import Derived.Deep.DeepCutAuto
import Derived.Deep.CutBlock
namespace Go.Proofs.YtonehmjoolflfaaGreatDoor
open Go Go.RowKit Grp
set_option linter.unusedSimpArgs false
set_option linter.unusedVariables false

/-- The state modulo 2^57 that the next draw looks at. -/
def stZ (h : Int) : Nat := (tick h % 144115188075855872).toNat
theorem tick_rng (h : Int) : 0 ≤ tick h ∧ tick h < 18446744073709551616 := wr_u64 _
theorem stZ_lt (h : Int) : stZ h < Zl.ML := by unfold stZ Zl.ML; omega
theorem tick_form (h : Int) : tick h % 144115188075855872 = (h * 6364136223846793005 + 1442695040888963407) % 144115188075855872 := by
  unfold tick; rw [IntKind.wrap_u64, IntKind.wrap_u64]
  generalize h * 6364136223846793005 = X
  omega
theorem mod_lin (t a g M : Int) : (t % M * a + g) % M = (t * a + g) % M := by
  rw [Int.add_emod, Int.mul_emod, Int.emod_emod_of_dvd _ (Int.dvd_refl _), ← Int.mul_emod, ← Int.add_emod]
theorem nx_cast (s a g M : Nat) (t : Int) (e : (s : Int) = t % (M : Int)) : (((s * a + g) % M : Nat) : Int) = (t * (a : Int) + (g : Int)) % (M : Int) := by
  rw [Int.natCast_emod, Int.natCast_add, Int.natCast_mul, e, mod_lin]
theorem stZ_cast (h : Int) : ((stZ h : Nat) : Int) = tick h % 144115188075855872 := by unfold stZ; omega
theorem stZ_tick (h : Int) : stZ (tick h) = Zl.nx (stZ h) :=
  Int.ofNat.inj ((stZ_cast (tick h)).trans ((tick_form (tick h)).trans (nx_cast (stZ h) Zl.aL Zl.cL Zl.ML (tick h) (stZ_cast h)).symm))
theorem stZ_ticks (h : Int) (k : Nat) : stZ (ticks h k) = Zl.it (stZ h) k := by
  induction k with
  | zero => rfl
  | succ k ih => show stZ (tick (ticks h k)) = Zl.nx (Zl.it (stZ h) k); rw [stZ_tick, ih]
theorem drw6 (h : Int) : drw h 6 = (Zl.dr (stZ h) : Nat) := by
  have hr := tick_rng h
  have e : ((stZ h : Nat) : Int) = tick h % 144115188075855872 := by unfold stZ; omega
  unfold drw Zl.dr Zl.SL
  omega
theorem drw3 (h : Int) : (drw h 3).toNat = Zl.dr (stZ h) % 3 := by
  have hr := tick_rng h
  have e : ((stZ h : Nat) : Int) = tick h % 144115188075855872 := by unfold stZ; omega
  unfold drw Zl.dr Zl.SL
  have y : tick h / 8589934592 % 16777216 = ((stZ h / 8589934592 : Nat) : Int) := by omega
  rw [y]
  generalize stZ h / 8589934592 = z
  omega
/-- The draws modulo 6 behind the hash g. -/
def rz (g : Int) (k : Nat) : Nat := Zl.rx (stZ g) k
theorem rz_eq (g : Int) (k : Nat) : rz g k = Zl.dr (stZ (ticks g k)) := by rw [stZ_ticks]; rfl
theorem drw_rz (g : Int) (p : Nat) : drw (ticks g p) 6 = (rz g p : Nat) := by rw [drw6, rz_eq]
theorem lfh_eq (g : Int) (p : Nat) : lfh (ticks g p) = Zl.lf (rz g) p := by
  unfold lfh Zl.lf
  rw [drw_rz, drw3, drw3, ticks_add, ticks_add, ← rz_eq, ← rz_eq]
  by_cases h0 : rz g p = 0
  · rw [if_pos (by omega), if_pos h0]
  · rw [if_neg (by omega), if_neg h0]
    by_cases h1 : rz g p = 1
    · rw [if_pos (by omega), if_pos h1]
    · rw [if_neg (by omega), if_neg h1]
theorem half_sml {most : Int} {os vs : List Int} {q : Int} (hm : most ≤ 1) (m0 : 0 ≤ most) (h : Sml (most / 2) os q vs) : most / prodL os ≤ 1 ∧ 0 ≤ most / prodL os := by
  have hp := h.ok.pos
  exact ⟨by have := Int.ediv_le_self (prodL os) m0; omega, Int.ediv_nonneg m0 (by omega)⟩
theorem up_n (n : Nat) : up n n = n := by unfold up; rw [if_neg (Nat.lt_irrefl n)]
section
variable (w0 : World) (B S : Nat) (A : Option Addr) (n c : Nat) (bs : List Int) (hb : SlB w0 B A n c bs) (hn : n ≤ 1073741824)
include hb hn
/-- With most below 2 the walk's places are told. -/
theorem small_1 (g : Int) {p q : Nat} (he : Zl.Ends (rz g) p q) : ∀ (most : Int), 0 ≤ most → most ≤ 1 → ∀ w, SrcE w0 B S A n c n (some (ticks g p)) w → B ≤ w.heap.size →
    Calls Tryz.prog 47 #[.pointer (some ⟨S, 0, none⟩), .int .i64 most] w (DrM w0 B S A n c n (some (ticks g q)) w (Sml most)) := by
  induction he with
  | leaf p h =>
    intro most m0 m1 w hs hBw
    refine small_step w0 w B S A n c n _ _ bs hb hn hs hBw most m0 (by omega) (hide ⟨fun h => by omega, fun h => (by cases h), fun g' hg' _ => ?_⟩) (hide fun hd => ?_)
    · obtain rfl := Option.some.inj hg'
      exact .inr (by rw [lfh_eq, ticks_add])
    · have := hd _ rfl
      rw [drw_rz] at this
      exact absurd (by omega) h
  | two p q s h _ _ ih1 ih2 =>
    intro most m0 m1 w hs hBw
    refine small_step w0 w B S A n c n _ _ bs hb hn hs hBw most m0 (by omega) (hide ⟨fun h => by omega, fun h => (by cases h), fun g' hg' hd => ?_⟩) (hide fun _ => ⟨some (ticks g q), ?_, ?_⟩)
    · obtain rfl := Option.some.inj hg'
      rw [drw_rz] at hd
      exact absurd (by omega) hd
    · intro W hW hBW
      rw [up_n] at hW ⊢
      exact ih1 (most / 2) (by omega) (by omega) W hW hBW
    · intro W os q' vs hR hW hBW
      rw [up_n] at hW
      obtain ⟨h1, h2⟩ := half_sml m1 m0 hR
      exact ih2 _ h2 h1 W hW hBW
/-- With most 2 or 3 the walk's rest falls. -/
theorem small_2 (g : Int) {p q : Nat} (he : Zl.Ends (rz g) p q) : ∀ (most : Int), 2 ≤ most → most ≤ 3 → ∀ w, SrcE w0 B S A n c n (some (ticks g p)) w → B ≤ w.heap.size →
    Calls Tryz.prog 47 #[.pointer (some ⟨S, 0, none⟩), .int .i64 most] w (DrM w0 B S A n c n none w (Sml most)) := by
  induction he with
  | leaf p h =>
    intro most m0 m1 w hs hBw
    refine small_step w0 w B S A n c n _ _ bs hb hn hs hBw most (by omega) (by omega) (hide ⟨fun _ => rfl, fun _ => rfl, fun _ _ _ => .inl rfl⟩) (hide fun hd => ?_)
    have := hd _ rfl
    rw [drw_rz] at this
    exact absurd (by omega) h
  | two p q s h h1 h2 _ ih2 =>
    intro most m0 m1 w hs hBw
    refine small_step w0 w B S A n c n _ _ bs hb hn hs hBw most (by omega) (by omega) (hide ⟨fun _ => rfl, fun _ => rfl, fun _ _ _ => .inl rfl⟩) (hide fun _ => ⟨some (ticks g q), ?_, ?_⟩)
    · intro W hW hBW
      rw [up_n] at hW ⊢
      exact small_1 w0 B S A n c bs hb hn g h1 (most / 2) (by omega) (by omega) W hW hBW
    · intro W os q' vs hR hW hBW
      rw [up_n] at hW
      by_cases h3 : prodL os = 1
      · rw [h3, Int.ediv_one]
        exact ih2 most m0 m1 W hW hBW
      · have hp := hR.ok.pos
        have hle : most / prodL os ≤ 1 := by
          have : most / prodL os < 2 := Int.ediv_lt_of_lt_mul (by omega) (by omega)
          omega
        have := small_1 w0 B S A n c bs hb hn g h2 (most / prodL os) (Int.ediv_nonneg (by omega) (by omega)) hle W hW hBW
        refine this.mono ?_
        rintro e w' ⟨v1, v2, os', q', vs', h4, h5, h6, h7, h8, h9, h10⟩
        exact ⟨v1, v2, os', q', vs', h4, h5, h6, h7, h8, h9.no, h10⟩
/-- Behind the code's last byte l10Small returns. -/
theorem small_end (N : Nat) : ∀ (most : Int), 0 ≤ most → most ≤ 16 → most ≤ N → ∀ (g : Int) w, SrcE w0 B S A n c n (some g) w → B ≤ w.heap.size →
    Calls Tryz.prog 47 #[.pointer (some ⟨S, 0, none⟩), .int .i64 most] w (DrM w0 B S A n c n none w (Sml most)) := by
  induction N with
  | zero =>
    intro most m0 _ hN g w hs hBw
    obtain ⟨q, hq⟩ := Zl.ends_all (stZ_lt g)
    refine (small_1 w0 B S A n c bs hb hn g (p := 0) hq most m0 (by omega) w hs hBw).mono ?_
    rintro e w' ⟨v1, v2, os', q', vs', h4, h5, h6, h7, h8, h9, h10⟩
    exact ⟨v1, v2, os', q', vs', h4, h5, h6, h7, h8, h9.no, h10⟩
  | succ N ih =>
    intro most m0 m16 hN g w hs hBw
    by_cases h1 : most ≤ 1
    · obtain ⟨q, hq⟩ := Zl.ends_all (stZ_lt g)
      refine (small_1 w0 B S A n c bs hb hn g (p := 0) hq most m0 h1 w hs hBw).mono ?_
      rintro e w' ⟨v1, v2, os', q', vs', h4, h5, h6, h7, h8, h9, h10⟩
      exact ⟨v1, v2, os', q', vs', h4, h5, h6, h7, h8, h9.no, h10⟩
    by_cases h3 : most ≤ 3
    · obtain ⟨q, hq⟩ := Zl.ends_all (stZ_lt g)
      exact small_2 w0 B S A n c bs hb hn g (p := 0) hq most (by omega) h3 w hs hBw
    refine small_step w0 w B S A n c n _ _ bs hb hn hs hBw most m0 m16 (hide ⟨fun _ => rfl, fun _ => rfl, fun _ _ _ => .inl rfl⟩) (hide fun _ => ⟨none, ?_, ?_⟩)
    · intro W hW hBW
      rw [up_n] at hW ⊢
      exact ih (most / 2) (by omega) (by omega) (by omega) _ W hW hBW
    · intro W os q' vs hR hW hBW
      rw [up_n] at hW
      have hne := hR.ne (by omega)
      have hp := (hR.ok.g hne).ge
      have hlt : most / prodL os < most := by
        refine Int.ediv_lt_of_lt_mul (by omega) ?_
        have : most * 2 ≤ most * prodL os := Int.mul_le_mul_of_nonneg_left hp m0
        omega
      obtain ⟨⟨a, h, hl, hX, -⟩⟩ := hW
      obtain rfl : a = n := by have := hX.ha; omega
      exact ih _ (Int.ediv_nonneg m0 (by omega)) (by omega) (by omega) h W (hX.e (Nat.le_refl _)) hBW
/-- l10Small returns. -/
theorem small_any (r : Nat) : ∀ (lo : Nat), n - lo ≤ r → ∀ (most : Int), 0 ≤ most → most ≤ 16 → ∀ w, Src w0 B S A n c lo w → B ≤ w.heap.size →
    Calls Tryz.prog 47 #[.pointer (some ⟨S, 0, none⟩), .int .i64 most] w (DrM w0 B S A n c lo none w (Sml most)) := by
  have endd : ∀ (lo : Nat) (most : Int), n ≤ lo → 0 ≤ most → most ≤ 16 → ∀ w, Src w0 B S A n c lo w → B ≤ w.heap.size →
    Calls Tryz.prog 47 #[.pointer (some ⟨S, 0, none⟩), .int .i64 most] w (DrM w0 B S A n c lo none w (Sml most)) := by
    intro lo most hl m0 m16 w hs hBw
    obtain ⟨⟨a, h, hla, hX⟩⟩ := hs
    obtain rfl : a = n := by have := hX.ha; omega
    obtain rfl : lo = a := by have := hX.ha; omega
    exact small_end w0 B S A lo c bs hb hn 16 most m0 m16 (by omega) h w (hX.e (Nat.le_refl _)) hBw
  induction r with
  | zero => intro lo hr most m0 m16 w hs hBw; exact endd lo most (by omega) m0 m16 w hs hBw
  | succ r ih =>
    intro lo hr most m0 m16 w hs hBw
    by_cases hl : n ≤ lo
    · exact endd lo most hl m0 m16 w hs hBw
    have hu : up n lo = lo + 1 := by unfold up; rw [if_pos (by omega)]
    refine small_step w0 w B S A n c lo none none bs hb hn hs.e hBw most m0 m16 (hide ⟨fun _ => rfl, fun _ => rfl, fun _ _ _ => .inl rfl⟩) (hide fun _ => ⟨none, ?_, ?_⟩)
    · intro W hW hBW
      rw [hu] at hW ⊢
      exact ih (lo + 1) (by omega) (most / 2) (by omega) (by omega) W hW.any hBW
    · intro W os q' vs hR hW hBW
      rw [hu] at hW
      have hp := hR.ok.pos
      have hle := Int.ediv_le_self (prodL os) m0
      refine (ih (lo + 1) (by omega) (most / prodL os) (Int.ediv_nonneg m0 (by omega)) (by omega) W hW.any hBW).mono ?_
      rintro e w' ⟨v1, v2, os', q', vs', h4, h5, h6, h7, h8, h9, h10⟩
      exact ⟨v1, v2, os', q', vs', h4, h5, h6, h7, h8, h9.less (by omega), h10⟩
end

/-- A slice that reads, and does not lie in the source. -/
structure SlS (w : World) (S : Nat) (A : Option Addr) (n c : Nat) (xs : List Int) : Prop where
  sl : Sl w w.heap.size A n c xs
  ne : ∀ b off sp, A = some ⟨b, off, sp⟩ → 0 < n → b ≠ S
theorem SlS.grown {w w' : World} {S : Nat} {A : Option Addr} {n c : Nat} {xs : List Int} (h : SlS w S A n c xs) (hg : w.grownBy w' (some S)) : SlS w' S A n c xs := by
  refine ⟨⟨h.sl.len, h.sl.cap, h.sl.rng, fun hn => ?_, h.sl.nil_⟩, h.ne⟩
  obtain ⟨b, off, e, hb, hc⟩ := h.sl.at_ hn
  have hne := h.ne b off none e hn
  refine ⟨b, off, e, Nat.lt_of_lt_of_le hb hg.size, fun k hk => ?_⟩
  have hbk := hg.block b hb (fun e => hne (Option.some.inj e))
  rw [← hc k hk]
  unfold World.cell?
  rw [hbk]
theorem Ow.slS {w : World} {B S : Nat} {v : Value} {xs : List Int} {w1 : World} {B1 : Nat} {A1 : Option Addr} {n c lo : Nat} {E : Option Int} (h : Ow w B v xs) (hr : ∀ x ∈ xs, i64ok x) (hs : SrcE w1 B1 S A1 n c lo E w) :
    ∃ A c, v = .slice A xs.length c ∧ SlS w S A xs.length c xs := by
  obtain ⟨A, c', e, hsl⟩ := h.sl hr
  refine ⟨A, c', e, hsl, fun b off sp hA hn heq => ?_⟩
  subst heq
  refine hs.ne h b ?_ rfl
  rw [e, hA]
  rfl
/-- A slice lies in blocks from L on. -/
def LoB (L : Nat) (A : Option Addr) (n : Nat) : Prop := ∀ b off sp, A = some ⟨b, off, sp⟩ → 0 < n → L ≤ b
/-- It returned a metric that can be read, drawn from the source. -/
def DrS (w0 : World) (B S : Nat) (A : Option Addr) (n c lo : Nat) (w : World) (R : List Int → Int → List Int → Prop) (e : Ending) (w' : World) : Prop :=
  ∃ A1 c1 A2 c2 os q vs, e = .returned (.agg #[.slice A1 os.length c1, .int .i64 q, .slice A2 vs.length c2]) ∧ R os q vs ∧ SlS w' S A1 os.length c1 os ∧ SlS w' S A2 vs.length c2 vs ∧ (LoB w.heap.size A1 os.length ∧ LoB w.heap.size A2 vs.length) ∧ Src w0 B S A n c lo w' ∧ w.grownBy w' (some S)
/-- A metric of few numbers. -/
structure GenM (os : List Int) (q : Int) (vs : List Int) : Prop where
  o : os.length ≤ 8
  v : vs.length ≤ 64
  q : i64ok q
def Dwn (os : List Int) (q : Int) (vs : List Int) : Prop := ∃ most, 4 ≤ most ∧ most ≤ 16 ∧ Sml most os q vs
theorem own_val' {w : World} {B : Nat} {v : Value} {xs : List Int} (h : Ow w B v xs) : ∃ A n c, v = .slice A n c := by
  obtain ⟨A, c, e⟩ := h.val
  exact ⟨A, _, c, e⟩
set_option maxRecDepth 100000 in
set_option maxHeartbeats 4000000 in
theorem l10Draw_any (w0 w : World) (B S : Nat) (A : Option Addr) (n c lo : Nat) (bs : List Int) (hb : SlB w0 B A n c bs) (hn : n ≤ 1073741824) (hs : Src w0 B S A n c lo w) (hBw : B ≤ w.heap.size) :
    Calls Tryz.prog 41 #[.pointer (some ⟨S, 0, none⟩)] w (DrM w0 B S A n c lo none w Dwn) := by
  have hSw := hs.lt
  go_enter Tryz.func41, Tryz.ntmps41
  obtain ⟨W0, hW0⟩ : ∃ W0, w.alloc (.cells #[.slice none 0 0, .int .i64 0, .slice none 0 0] 26) = W0 := ⟨_, rfl⟩
  have bR : Blk W0 w.heap.size 26 #[.slice none 0 0, .int .i64 0, .slice none 0 0] := by rw [← hW0]; exact Blk.new _ _ _
  have s0 : Src w0 B S A n c lo W0 := by rw [← hW0]; exact hs.alloc _
  have g0 : w.grownBy W0 (some S) := by rw [← hW0]; exact World.grownBy_alloc _ _ _
  have z0 : w.heap.size < W0.heap.size := by rw [← hW0]; simp
  go_wp2_with fail
  clear hW0
  refine (l01Pick_any w0 _ B S A n c lo bs hb hn (s0.alloc _) W0.heap.size 2 4 [4, 8, 9, 16] (Blk.new _ _ _) (by have := s0.lt; omega) rfl (by omega) (by omega)).mono ?_
  rintro e w2 ⟨most, rfl, hk, s2, g2⟩
  have hm : 4 ≤ most ∧ most ≤ 16 := pick_mem hk (by decide)
  replace bR := (bR.alloc _).grown g2 (by simp; omega)
  replace g0 := (g0.trans (World.grownBy_alloc _ _ _)).trans g2
  clear hk s0 g2 z0
  have z2 := bR.lt
  go_wp2_with fail
  refine (small_any w0 B S A n c bs hb hn n lo (by omega) most (by omega) hm.2 _ s2 (by omega)).mono ?_
  rintro e w3 ⟨v1, v2, os, q, vs, rfl, hR, o1, o2, ap, s3, g3⟩
  replace bR := bR.grown g3 (by simp; omega)
  have gf := g0.trans g3
  have sf := s3
  replace o1 := o1.less (show w.heap.size ≤ _ by omega)
  replace o2 := o2.less (show w.heap.size ≤ _ by omega)
  clear g0 s2 g3 s3
  have hP := hide (show Dwn os q vs from ⟨most, hm.1, hm.2, hR⟩)
  have hres := bR
  have r0 := hres.cell 0
  have r1 := hres.cell 1
  have r2 := hres.cell 2
  have f0 := hres.frozen 0
  have f1 := hres.frozen 1
  have f2 := hres.frozen 2
  obtain ⟨A1, n1, c1, rfl⟩ := own_val' o1
  obtain ⟨A2, n2, c2, rfl⟩ := own_val' o2
  go_wp2_with fail
  have hb3 := put3_blk (x := .slice A1 n1 c1) (y := .int .i64 q) (z := .slice A2 n2 c2) hres
  have q0 := hb3.cell 0
  have q1 := hb3.cell 1
  have q2 := hb3.cell 2
  unfold put3 at q0 q1 q2
  refine bodyPost_ret (v := .agg #[.slice A1 n1 c1, .int .i64 q, .slice A2 n2 c2]) (by simp [results, Tryz.results41, go_sem, q0, q1, q2]) rfl ?_
  exact drM_fin rfl hSw hBw hP.out bR o1 o2 ap sf (Nat.le_refl _) (.inr rfl) gf

theorem slS_tail {w : World} {S : Nat} {n c : Nat} {xs : List Int} {b off : Nat} (h : SlS w S (some ⟨b, off, none⟩) n c xs) (h1 : 1 ≤ n) : SlS w S (some ⟨b, off + 1, none⟩) (n - 1) (c - 1) (xs.drop 1) := by
  obtain ⟨b', off', e, hb, hc⟩ := h.sl.at_ (by omega)
  have hlen := h.sl.len
  have hcap := h.sl.cap
  injection e with e
  injection e with e1 e2 _
  subst e1 e2
  refine ⟨⟨by rw [List.length_drop]; omega, by omega, fun x hx => h.sl.rng x (List.mem_of_mem_drop hx), fun hn => ⟨b, off + 1, rfl, hb, fun k hk => ?_⟩, fun h => by cases h⟩, fun b2 off2 sp e hn => ?_⟩
  · have := hc (1 + k) (by omega)
    rw [show off + 1 + k = off + (1 + k) by omega, this]
    unfold gi
    simp [List.getD_eq_getElem?_getD, Nat.add_comm 1 k]
  · injection e with e
    injection e with e1 e2 e3
    exact fun hh => h.ne b off none rfl (by omega) (e1.trans hh)
/-- The metric in its block M, the result's slot R. -/
structure SpM (w0 : World) (B S : Nat) (A : Option Addr) (n c lo : Nat) (w : World) (M R : Nat) (wx : World) : Prop where
  m : ∃ A1 c1 A2 c2 os q vs, Blk wx M 26 #[.slice A1 (List.length os) c1, .int .i64 q, .slice A2 (List.length vs) c2] ∧ GenM os q vs ∧ SlS wx S A1 os.length c1 os ∧ SlS wx S A2 vs.length c2 vs ∧ SlS wx R A1 os.length c1 os ∧ SlS wx R A2 vs.length c2 vs ∧ LoB w.heap.size A1 os.length ∧ LoB w.heap.size A2 vs.length
  res : Blk wx R 26 #[.slice none 0 0, .int .i64 0, .slice none 0 0]
  src : Src w0 B S A n c lo wx
  keep : w.grownBy wx (some S)
theorem slS_keep {w w' : World} {S M : Nat} {A : Option Addr} {n c : Nat} {xs : List Int} (h : SlS w S A n c xs) (hM : ∀ b, (∃ off sp, A = some ⟨b, off, sp⟩) → 0 < n → w'.heap[b]? = w.heap[b]?) (hz : w.heap.size ≤ w'.heap.size) : SlS w' S A n c xs := by
  refine ⟨⟨h.sl.len, h.sl.cap, h.sl.rng, fun hn => ?_, h.sl.nil_⟩, h.ne⟩
  obtain ⟨b, off, e, hb, hc⟩ := h.sl.at_ hn
  have hk := hM b ⟨off, none, e⟩ hn
  refine ⟨b, off, e, Nat.lt_of_lt_of_le hb hz, fun k hkn => ?_⟩
  rw [← hc k hkn]
  unfold World.cell?
  rw [hk]
theorem slS_put3 {w : World} {S R : Nat} {A : Option Addr} {n c : Nat} {xs : List Int} {x y z : Value} (h : SlS w S A n c xs) (hR : SlS w R A n c xs) : SlS (put3 w R x y z) S A n c xs :=
  slS_keep (M := R) h (fun b hb hn => by
    obtain ⟨off, sp, e⟩ := hb
    have hne := hR.ne b off sp e hn
    unfold put3
    rw [Below.heap_setCell _ _ _ _ hne, Below.heap_setCell _ _ _ _ hne, Below.heap_setCell _ _ _ _ hne]) (by rw [put3_size]; exact Nat.le_refl _)
theorem slS_set {w : World} {S M i : Nat} {A : Option Addr} {n c : Nat} {xs : List Int} {v : Value} (h : SlS w S A n c xs) (hM : SlS w M A n c xs) : SlS (w.setCell ⟨M, i, none⟩ v) S A n c xs :=
  slS_keep (M := M) h (fun b hb hn => by
    obtain ⟨off, sp, e⟩ := hb
    have hne := hM.ne b off sp e hn
    exact Below.heap_setCell _ _ _ _ hne) (by simp [World.setCell])
theorem Ow.slR {w : World} {B R : Nat} {v : Value} {xs : List Int} {t : TypeId} {cs : Array Value} {A : Option Addr} {c : Nat} (h : Ow w B v xs) (hr : ∀ x ∈ xs, i64ok x) (hR : Blk w R t cs) (ht : t ≠ 2) (hv : v = .slice A xs.length c) : SlS w R A xs.length c xs := by
  obtain ⟨A', c', e, hsl⟩ := h.sl hr
  obtain ⟨rfl, rfl⟩ : A = A' ∧ c = c' := by rw [hv] at e; injection e with a _ b; exact ⟨a, b⟩
  refine ⟨hsl, fun b off sp hA hn heq => ?_⟩
  subst heq
  exact h.blk_ne hR ht (by rw [hv, hA]; rfl)
theorem Ow.loB {w : World} {B : Nat} {A : Option Addr} {n c : Nat} {xs : List Int} (h : Ow w B (.slice A n c) xs) {m : Nat} : LoB B A m := fun b off sp hA _ => (h.lt b (by rw [hA]; rfl)).1
theorem spM_of {w0 w wx : World} {B S : Nat} {A : Option Addr} {n c lo M R : Nat} {A1 A2 : Option Addr} {c1 c2 n1 n2 : Nat} {os vs : List Int} {q : Int} (b1 : Blk wx M 26 #[.slice A1 n1 c1, .int .i64 q, .slice A2 n2 c2]) (h1 : n1 = os.length) (h2 : n2 = vs.length)
    (o1 : Ow wx w.heap.size (.slice A1 n1 c1) os) (o2 : Ow wx w.heap.size (.slice A2 n2 c2) vs) (r1 : ∀ x ∈ os, i64ok x) (r2 : ∀ x ∈ vs, i64ok x) (hG : GenM os q vs)
    (bR : Blk wx R 26 #[.slice none 0 0, .int .i64 0, .slice none 0 0]) (sr : Src w0 B S A n c lo wx) (kp : w.grownBy wx (some S)) : SpM w0 B S A n c lo w M R wx := by
  subst h1 h2
  obtain ⟨A1', c1', e1, s1⟩ := o1.slS r1 sr.e
  obtain ⟨rfl, rfl⟩ : A1 = A1' ∧ c1 = c1' := by injection e1 with a _ b; exact ⟨a, b⟩
  obtain ⟨A2', c2', e2, s2⟩ := o2.slS r2 sr.e
  obtain ⟨rfl, rfl⟩ : A2 = A2' ∧ c2 = c2' := by injection e2 with a _ b; exact ⟨a, b⟩
  exact ⟨⟨A1, c1, A2, c2, os, q, vs, b1, hG, s1, s2, o1.slR r1 bR (by decide) rfl, o2.slR r2 bR (by decide) rfl, o1.loB, o2.loB⟩, bR, sr, kp⟩
/-- The drawn metric in its block M, the result's slot R, the source. -/
structure SpW (w0 : World) (B S : Nat) (A : Option Addr) (n c lo : Nat) (w : World) (M R : Nat) (v1 : Value) (q : Int) (v2 : Value) (os vs : List Int) (wx : World) : Prop where
  m : Blk wx M 26 #[v1, .int .i64 q, v2]
  o : Ow wx w.heap.size v1 os
  v : Ow wx w.heap.size v2 vs
  res : Blk wx R 26 #[.slice none 0 0, .int .i64 0, .slice none 0 0]
  src : Src w0 B S A n c lo wx
  keep : w.grownBy wx (some S)
section
variable {w0 w wr w' : World} {B S : Nat} {A : Option Addr} {n c lo M R : Nat} {v1 v2 : Value} {os vs : List Int} {q : Int}
theorem SpW.drewN (h : SpW w0 B S A n c lo w M R v1 q v2 os vs wr) (m : Nat) : SpW w0 B S A n c lo w M R v1 q v2 os vs (wr.drewN m) :=
  ⟨h.m.drewN m, h.o.drewN m, h.v.drewN m, h.res.drewN m, h.src.drewN m, h.keep.trans ⟨rfl, rfl, rfl, Nat.le_refl _, fun _ _ _ => rfl⟩⟩
theorem SpW.drew (h : SpW w0 B S A n c lo w M R v1 q v2 os vs wr) : SpW w0 B S A n c lo w M R v1 q v2 os vs wr.drew := h.drewN 1
theorem SpW.alloc (h : SpW w0 B S A n c lo w M R v1 q v2 os vs wr) (o : Obj) : SpW w0 B S A n c lo w M R v1 q v2 os vs (wr.alloc o) :=
  ⟨h.m.alloc o, h.o.alloc o, h.v.alloc o, h.res.alloc o, h.src.alloc o, h.keep.trans (World.grownBy_alloc _ _ _)⟩
theorem SpW.call (h : SpW w0 B S A n c lo w M R v1 q v2 os vs wr) (hM : M ≠ S) (hR : R ≠ S) (hs : Src w0 B S A n c lo w') (hg : wr.grownBy w' (some S)) : SpW w0 B S A n c lo w M R v1 q v2 os vs w' :=
  ⟨h.m.grown hg (fun e => hM (Option.some.inj e).symm), h.o.far hg (h.src.ne h.o), h.v.far hg (h.src.ne h.v), h.res.grown hg (fun e => hR (Option.some.inj e).symm), hs, h.keep.trans hg⟩
end
set_option maxRecDepth 100000 in
set_option maxHeartbeats 8000000 in
theorem l10Spoil_any (w0 w : World) (B S : Nat) (A : Option Addr) (n c lo : Nat) (bs : List Int) (hb : SlB w0 B A n c bs) (hn : n ≤ 1073741824) (hs : Src w0 B S A n c lo w) (hBw : B ≤ w.heap.size) :
    Calls Tryz.prog 34 #[.pointer (some ⟨S, 0, none⟩)] w (DrS w0 B S A n c lo w GenM) := by
  have hSw := hs.lt
  go_enter Tryz.func34, Tryz.ntmps34
  obtain ⟨W0, hW0⟩ : ∃ W0, w.alloc (.cells #[.slice none 0 0, .int .i64 0, .slice none 0 0] 26) = W0 := ⟨_, rfl⟩
  have bR : Blk W0 w.heap.size 26 #[.slice none 0 0, .int .i64 0, .slice none 0 0] := by rw [← hW0]; exact Blk.new _ _ _
  have s0 : Src w0 B S A n c lo W0 := by rw [← hW0]; exact hs.alloc _
  have g0 : w.grownBy W0 (some S) := by rw [← hW0]; exact World.grownBy_alloc _ _ _
  have z0 : w.heap.size < W0.heap.size := by rw [← hW0]; simp
  go_wp2_with fail
  clear hW0
  refine (l10Draw_any w0 _ B S A n c lo bs hb hn s0 (by omega)).mono ?_
  rintro e w2 ⟨v1, v2, os, q, vs, rfl, ⟨most, hm1, hm2, hR⟩, o1, o2, ap, s2, g2⟩
  replace bR := bR.grown g2 (by simp; omega)
  replace g0 := g0.trans g2
  have z2 := bR.lt
  obtain ⟨A1, c1, rfl, -⟩ := o1.sl hR.rng1
  obtain ⟨A2, c2, rfl, -⟩ := o2.sl hR.rng2
  replace o1 := o1.less (show w.heap.size ≤ _ by omega)
  replace o2 := o2.less (show w.heap.size ≤ _ by omega)
  obtain ⟨w3, gm, hgm, hw3, hB3, hsub, bM, hgB⟩ := be_alloc (Below.refl w2.heap.size w2) 26 #[.slice none 0 0, .int .i64 0, .slice none 0 0]
  have hgw : w.heap.size < gm := by rw [← hgm]; omega
  have hgS : gm ≠ S := by have := s2.lt; rw [← hgm]; omega
  have q1 := put3_blk (x := .slice A1 os.length c1) (y := .int .i64 q) (z := .slice A2 vs.length c2) bM
  have q2 := put3_own (x := .slice A1 os.length c1) (y := .int .i64 q) (z := .slice A2 vs.length c2) bM (by decide) (o1.below hsub)
  have q3 := put3_own (x := .slice A1 os.length c1) (y := .int .i64 q) (z := .slice A2 vs.length c2) bM (by decide) (o2.below hsub)
  have q4 := (s2.all hB3 (by omega)).put3 hgS (by omega) (.slice A1 os.length c1) (.int .i64 q) (.slice A2 vs.length c2)
  have q5 := grown_put3 (grown_below g0 (hB3.mono (by omega))) (show w.heap.size ≤ gm by omega) (.slice A1 os.length c1) (.int .i64 q) (.slice A2 vs.length c2)
  have q6 := put3_far (x := .slice A1 os.length c1) (y := .int .i64 q) (z := .slice A2 vs.length c2) (bR.all hB3) (show w.heap.size ≠ gm by omega)
  obtain ⟨W3, hW3⟩ : ∃ W3, put3 w3 gm (.slice A1 os.length c1) (.int .i64 q) (.slice A2 vs.length c2) = W3 := ⟨_, rfl⟩
  have r0 := bM.cell 0
  have r1 := bM.cell 1
  have r2 := bM.cell 2
  have f0 := bM.frozen 0
  have f1 := bM.frozen 1
  have f2 := bM.frozen 2
  rw [hW3] at q1 q2 q3 q4 q5 q6
  unfold put3 at hW3
  clear hB3 hsub bM bR s2 g0 g2 o1 o2 s0 z0
  go_wp2_with fail
  clear hw3 hW3 r0 r1 r2 f0 f1 f2
  refine (l01Next_any w0 _ B S A n c lo bs hb hn q4.any 30 ⟨by omega, by omega⟩).mono ?_
  rintro e w4 ⟨x, rfl, ⟨x0, x1, -⟩, s4, g4⟩
  replace q2 := q2.far g4 (q4.ne q2)
  replace q3 := q3.far g4 (q4.ne q3)
  replace q1 := q1.grown g4 (by simp; omega)
  replace q6 := q6.grown g4 (by simp; omega)
  replace q5 := q5.trans g4
  clear q4 g4 hgm hgB
  have hlm := q1.lt
  go_upto_block 0 with fail
  go_cut [] (fun wx => SpM w0 B S A n c lo w gm w.heap.size wx)
  case rest =>
    clear q1 q2 q3 q5 q6 s4 x0 x1 hR
    obtain ⟨⟨A1, c1, A2, c2, os, q, vs, b1, hG, sl1, sl2, sr1, sr2, lb1, lb2⟩, bR, sr, kp⟩ := hcut
    have j0 := b1.cell 0
    have j1 := b1.cell 1
    have j2 := b1.cell 2
    have hres := bR
    have r0 := hres.cell 0
    have r1 := hres.cell 1
    have r2 := hres.cell 2
    have f0 := hres.frozen 0
    have f1 := hres.frozen 1
    have f2 := hres.frozen 2
    have hzz := bR.lt
    go_wp2_with fail
    have hb3 := put3_blk (x := .slice A1 (List.length os) c1) (y := .int .i64 q) (z := .slice A2 (List.length vs) c2) hres
    have q0 := hb3.cell 0
    have q1 := hb3.cell 1
    have q2 := hb3.cell 2
    unfold put3 at q0 q1 q2
    refine bodyPost_ret (v := .agg #[.slice A1 (List.length os) c1, .int .i64 q, .slice A2 (List.length vs) c2]) (by simp [results, Tryz.results34, go_sem, q0, q1, q2]) rfl ?_
    exact ⟨A1, c1, A2, c2, os, q, vs, rfl, hG, slS_put3 sl1 sr1, slS_put3 sl2 sr2, ⟨lb1, lb2⟩, (sr.e.put3 (by omega) (by omega) _ _ _).any, grown_put3 kp (Nat.le_refl _) _ _ _⟩
  case first =>
    have hd1 := hR.ok.d1
    have hd2 := hR.ok.d2
    have hl4 := hR.ok.l4
    have hv16 := hR.ok.lt
    have hG0 := hide (show GenM os q vs from ⟨by omega, by omega, ⟨by omega, by omega⟩⟩)
    by_cases c0 : x = 0
    · subst c0
      have hpos : 1 ≤ vs.length := by have := hR.ok.len; have := hR.ok.pos; omega
      obtain ⟨g, cg, hvg⟩ : ∃ g cg, A2 = some ⟨g, 0, none⟩ ∧ c2 = cg := by
        rcases q3.form with ⟨h1, h2⟩ | ⟨g, cap, h1, _⟩
        · rw [h2] at hpos; simp at hpos
        · injection h1 with a1 a2 a3; exact ⟨g, c2, a1, rfl⟩
      obtain ⟨rfl, rfl⟩ := hvg
      have j0 := q1.cell 0
      have j1 := q1.cell 1
      have j2 := q1.cell 2
      have hcells := hide (fun wx (hx : Blk wx gm 26 #[.slice A1 os.length c1, .int .i64 q, .slice (some ⟨g, 0, none⟩) vs.length c2]) => show wx.cell? ⟨gm, 1, none⟩ = some (.int .i64 q) ∧ wx.cell? ⟨gm, 2, none⟩ = some (.slice (some ⟨g, 0, none⟩) vs.length c2) from ⟨hx.cell 1, hx.cell 2⟩)
      obtain ⟨N, hN⟩ : ∃ N, vs.length = N := ⟨_, rfl⟩
      have hNH := hide hN
      have q3' := hide q3
      rw [hN] at q1 q3 hpos hcells hv16
      have hRS : w.heap.size ≠ S := by omega
      have hW : SpW w0 B S A n c lo w gm w.heap.size (.slice A1 os.length c1) q (.slice (some ⟨g, 0, none⟩) N c2) os vs w4 := ⟨q1, q2, q3, q6, s4, q5⟩
      clear hN j0 j1 j2 q1 q2 q3 q5 q6 s4
      go_wp2_with fail
      replace hW := hW.drew
      refine wp_region_ot (.one 0 (.one 1 (.one 2 (.one 3 (.one 4 (.one 5 (.one 7 (.one 8 (.one 9 (.two 6 (.one 10 (.one 11 (.one 12 (.one 13 .nil)))) 10 (.one 6 (.one 11 (.one 12 (.one 13 .nil)))))))))))))) 12 (fun wx => wx.cell? ⟨gm, 1, none⟩ = some (.int .i64 q) ∧ wx.cell? ⟨gm, 2, none⟩ = some (.slice (some ⟨g, 0, none⟩) N c2)) (by kernel_rfl) (by kernel_rfl) (by kernel_rfl) (fun _ _ _ _ _ h => h) (hcells.out _ hW.m) ?_
      repeat (first | (apply ot_tk rfl (by rfl) (by rfl) (by rfl); (focus (intro wx hSw; obtain ⟨a1, a2⟩ := hSw; go_simp; (try with_reducible rfl))); (try simp only [Act.put, List.setIfInBounds_toArray, List.set_cons_zero, List.set_cons_succ])) | (apply ot_skip rfl (by rfl) (by rfl) (fun _ => hBe); (try simp only [Act.put, List.setIfInBounds_toArray, List.set_cons_zero, List.set_cons_succ])))
      refine ot_two ?_ ?_
      · refine ot_do rfl (by rfl) (by rfl) (fun K hK => ?_)
        go_simp
        refine (l01Next_any w0 _ B S A n c lo bs hb hn hW.src (N : Int) ⟨by omega, by omega⟩).mono ?_
        rintro e wn ⟨k, rfl, ⟨k0, k1, -⟩, sn, gn⟩
        replace k1 := k1 (by omega)
        replace hW := hW.call hgS hRS sn gn
        clear sn gn
        refine hK.out _ _ (fun _ => hcells.out _ hW.m) ?_
        (try simp only [Act.put, List.setIfInBounds_toArray, List.set_cons_zero, List.set_cons_succ])
        clear hK K
        refine ot_do rfl (by rfl) (by rfl) (fun K hK => ?_)
        go_simp
        have hLz := hW.src.lt
        have hL := Blk.new wn 2 #[.int .i64 (-1), .int .i64 q, .int .i64 1, .int .i64 0]
        replace hW := hW.alloc (.cells #[.int .i64 (-1), .int .i64 q, .int .i64 1, .int .i64 0] 2)
        refine hK.out _ _ (fun _ => hcells.out _ hW.m) ?_
        (try simp only [Act.put, List.setIfInBounds_toArray, List.set_cons_zero, List.set_cons_succ])
        clear hK K
        refine ot_do rfl (by rfl) (by rfl) (fun K hK => ?_)
        go_simp
        refine (l01Pick_any w0 _ B S A n c lo bs hb hn hW.src wn.heap.size 2 4 [-1, q, 1, 0] hL (by omega) rfl (by omega) (by omega)).mono ?_
        rintro e wp ⟨y, rfl, hy, sp, gp⟩
        replace hW := hW.call hgS hRS sp gp
        clear sp gp hL
        have hy2 : i64ok y := by simp at hy; rcases hy with rfl | rfl | rfl | rfl <;> exact ⟨by omega, by omega⟩
        clear hy
        obtain ⟨k, rfl⟩ := Int.eq_ofNat_of_zero_le k0
        have hkN : k < N := by omega
        have ck := hW.v.cell hNH.out.symm hkN
        have fk := hW.v.frozen hNH.out.symm k
        refine hK.out _ _ (fun _ => hcells.out _ hW.m) ?_
        (try simp only [Act.put, List.setIfInBounds_toArray, List.set_cons_zero, List.set_cons_succ])
        clear hK K
        refine ot_do rfl (by rfl) (by rfl) (fun K hK => ?_)
        go_simp
        refine hK.out _ _ (fun h => absurd h (by omega)) ?_
        (try simp only [Act.put, List.setIfInBounds_toArray, List.set_cons_zero, List.set_cons_succ])
        clear hK K
        refine ot_do rfl (by rfl) (by rfl) (fun K hK => ?_)
        go_simp
        refine hK.out _ _ (fun h => absurd h (by omega)) ?_
        (try simp only [Act.put, List.setIfInBounds_toArray, List.set_cons_zero, List.set_cons_succ])
        clear hK K
        refine ot_nil ?_
        go_wp2_with fail
        go_meet
        have ng : gm ≠ g := fun e => hW.v.blk_ne hW.m (by decide) (by rw [e]; rfl)
        have nr : w.heap.size ≠ g := fun e => hW.v.blk_ne hW.res (by decide) (by rw [e]; rfl)
        have ns : g ≠ S := fun e => hW.src.ne hW.v g rfl (by rw [e])
        have lg := hW.v.lt g rfl
        have hset : wp.grownBy (wp.setCell ⟨g, k, none⟩ (.int .i64 y)) (some g) := ⟨rfl, rfl, rfl, by simp [World.setCell], fun b _ hb => Below.heap_setCell _ _ _ _ (fun e => hb (by rw [e]))⟩
        exact spM_of (hW.m.far ng _) rfl (by rw [List.length_set]; exact hNH.out.symm) (hW.o.far hset (fun b hb e => ap b hb (by rw [← e]; rfl))) (hW.v.store hNH.out.symm k y) hR.rng1 (fun x hx => by
          rcases List.mem_or_eq_of_mem_set hx with h | h
          · exact hR.rng2 x h
          · rw [h]; exact hy2) ⟨by omega, by rw [List.length_set, hNH.out]; omega, ⟨by omega, by omega⟩⟩ (hW.res.far nr _) (hW.src.e.store ns (by omega) _).any (grown_below hW.keep ((Below.refl _ _).setCell lg.1 _))
      · refine ot_do rfl (by rfl) (by rfl) (fun K hK => ?_)
        go_simp
        have hLz := hW.src.lt
        have hL := Blk.new w4.drew 2 #[.int .i64 (-1), .int .i64 q, .int .i64 1, .int .i64 0]
        replace hW := hW.alloc (.cells #[.int .i64 (-1), .int .i64 q, .int .i64 1, .int .i64 0] 2)
        refine hK.out _ _ (fun _ => hcells.out _ hW.m) ?_
        (try simp only [Act.put, List.setIfInBounds_toArray, List.set_cons_zero, List.set_cons_succ])
        clear hK K
        refine ot_do rfl (by rfl) (by rfl) (fun K hK => ?_)
        go_simp
        refine (l01Next_any w0 _ B S A n c lo bs hb hn hW.src (N : Int) ⟨by omega, by omega⟩).mono ?_
        rintro e wn ⟨k, rfl, ⟨k0, k1, -⟩, sn, gn⟩
        replace k1 := k1 (by omega)
        replace hL := hL.grown gn (by simp; omega)
        replace hW := hW.call hgS hRS sn gn
        clear sn gn
        refine hK.out _ _ (fun _ => hcells.out _ hW.m) ?_
        (try simp only [Act.put, List.setIfInBounds_toArray, List.set_cons_zero, List.set_cons_succ])
        clear hK K
        refine ot_do rfl (by rfl) (by rfl) (fun K hK => ?_)
        go_simp
        refine (l01Pick_any w0 _ B S A n c lo bs hb hn hW.src w4.drew.heap.size 2 4 [-1, q, 1, 0] hL (by omega) rfl (by omega) (by omega)).mono ?_
        rintro e wp ⟨y, rfl, hy, sp, gp⟩
        replace hW := hW.call hgS hRS sp gp
        clear sp gp hL
        have hy2 : i64ok y := by simp at hy; rcases hy with rfl | rfl | rfl | rfl <;> exact ⟨by omega, by omega⟩
        clear hy
        obtain ⟨k, rfl⟩ := Int.eq_ofNat_of_zero_le k0
        have hkN : k < N := by omega
        have ck := hW.v.cell hNH.out.symm hkN
        have fk := hW.v.frozen hNH.out.symm k
        refine hK.out _ _ (fun _ => hcells.out _ hW.m) ?_
        (try simp only [Act.put, List.setIfInBounds_toArray, List.set_cons_zero, List.set_cons_succ])
        clear hK K
        refine ot_do rfl (by rfl) (by rfl) (fun K hK => ?_)
        go_simp
        refine hK.out _ _ (fun h => absurd h (by omega)) ?_
        (try simp only [Act.put, List.setIfInBounds_toArray, List.set_cons_zero, List.set_cons_succ])
        clear hK K
        refine ot_do rfl (by rfl) (by rfl) (fun K hK => ?_)
        go_simp
        refine hK.out _ _ (fun h => absurd h (by omega)) ?_
        (try simp only [Act.put, List.setIfInBounds_toArray, List.set_cons_zero, List.set_cons_succ])
        clear hK K
        refine ot_nil ?_
        go_wp2_with fail
        go_meet
        have ng : gm ≠ g := fun e => hW.v.blk_ne hW.m (by decide) (by rw [e]; rfl)
        have nr : w.heap.size ≠ g := fun e => hW.v.blk_ne hW.res (by decide) (by rw [e]; rfl)
        have ns : g ≠ S := fun e => hW.src.ne hW.v g rfl (by rw [e])
        have lg := hW.v.lt g rfl
        have hset : wp.grownBy (wp.setCell ⟨g, k, none⟩ (.int .i64 y)) (some g) := ⟨rfl, rfl, rfl, by simp [World.setCell], fun b _ hb => Below.heap_setCell _ _ _ _ (fun e => hb (by rw [e]))⟩
        exact spM_of (hW.m.far ng _) rfl (by rw [List.length_set]; exact hNH.out.symm) (hW.o.far hset (fun b hb e => ap b hb (by rw [← e]; rfl))) (hW.v.store hNH.out.symm k y) hR.rng1 (fun x hx => by
          rcases List.mem_or_eq_of_mem_set hx with h | h
          · exact hR.rng2 x h
          · rw [h]; exact hy2) ⟨by omega, by rw [List.length_set, hNH.out]; omega, ⟨by omega, by omega⟩⟩ (hW.res.far nr _) (hW.src.e.store ns (by omega) _).any (grown_below hW.keep ((Below.refl _ _).setCell lg.1 _))
    by_cases c1x : x = 1
    · subst c1x
      clear c0
      have hGq := hide (fun q' (h : i64ok q') => show GenM os q' vs from ⟨by omega, by omega, h⟩)
      have u1 : IntKind.i64.wrap (q * 2) = q * 2 := wr64 _ ⟨by omega, by omega⟩
      have j0 := q1.cell 0
      have j1 := q1.cell 1
      have j2 := q1.cell 2
      have f1 := q1.frozen 1
      go_wp2_with fail
      refine (l01Pick_any w0 _ B S A n c lo bs hb hn (s4.alloc _) w4.heap.size 2 4 [0, 13, 26, q * 2] (Blk.new _ _ _) (by have := s4.lt; omega) rfl (by omega) (by omega)).mono ?_
      rintro e w6 ⟨y, rfl, hy, s6, g6⟩
      have hy2 : i64ok y := by simp at hy; rcases hy with rfl | rfl | rfl | rfl <;> exact ⟨by omega, by omega⟩
      have a2 := (q2.alloc (.cells #[.int .i64 0, .int .i64 13, .int .i64 26, .int .i64 (q * 2)] 2)).far g6 (s4.ne q2)
      have a3 := (q3.alloc (.cells #[.int .i64 0, .int .i64 13, .int .i64 26, .int .i64 (q * 2)] 2)).far g6 (s4.ne q3)
      have a1 := (q1.alloc (.cells #[.int .i64 0, .int .i64 13, .int .i64 26, .int .i64 (q * 2)] 2)).grown g6 (by simp; omega)
      have a6 := (q6.alloc (.cells #[.int .i64 0, .int .i64 13, .int .i64 26, .int .i64 (q * 2)] 2)).grown g6 (by simp; omega)
      have a5 := (q5.trans (World.grownBy_alloc _ (.cells #[.int .i64 0, .int .i64 13, .int .i64 26, .int .i64 (q * 2)] 2) _)).trans g6
      clear q1 q2 q3 q5 q6 j0 j1 j2 f1 hy
      have f1 := a1.frozen 1
      have j1 := a1.cell 1
      go_wp2_with fail
      go_meet
      exact spM_of (a1.store 1 (.int .i64 y)) rfl rfl (a2.setCell a1 (by decide) _ _) (a3.setCell a1 (by decide) _ _) hR.rng1 hR.rng2 (hGq.out y hy2) (a6.far (show w.heap.size ≠ gm by omega) _) (s6.e.store hgS (by omega) _).any (grown_below a5 ((Below.refl _ _).setCell (show w.heap.size ≤ gm by omega) _))
    by_cases c2x : x = 2
    · subst c2x
      clear c0 c1x
      have hG2 := hide (show GenM (os ++ [2]) q vs from ⟨by simp; omega, by omega, ⟨by omega, by omega⟩⟩)
      have j0 := q1.cell 0
      have j1 := q1.cell 1
      have j2 := q1.cell 2
      have hJ := q2.alloc (.cells #[.int .i64 2] 2)
      have b1 := q1.alloc (.cells #[.int .i64 2] 2)
      have a3 := q3.alloc (.cells #[.int .i64 2] 2)
      have a6 := q6.alloc (.cells #[.int .i64 2] 2)
      have s6 := s4.alloc (.cells #[.int .i64 2] 2)
      have a5 := q5.trans (World.grownBy_alloc _ (.cells #[.int .i64 2] 2) _)
      have hzz := q6.lt
      have f0 := q1.frozen 0
      clear x0 x1
      go_wp2_with (at_builtin; refine list_push _ rfl _ _ rfl w.heap.size _ os rfl hJ 2 _ _ rfl (Blk.new _ _ _) (by omega) (by simp; omega) (by simp) ?_; intro g2 cap w6 hP; have o2' := hP.blk hJ b1 (by decide); have c2' := o2'.cell 0; have f2' := o2'.frozen 0)
      go_meet
      have hsz := hP.below hJ (by simp; omega)
      refine spM_of (o2'.store 0 _) (by simp) rfl (hP.own.setCell o2' (by decide) _ _) ((hP.far a3 ap.symm).setCell o2' (by decide) _ _) (all_snoc hR.rng1 ⟨by omega, by omega⟩) hR.rng2 hG2.out ((hP.blk hJ a6 (by decide)).far (show w.heap.size ≠ gm by omega) _) (((s6.push hP hJ hBw (by simp; omega)).e.store hgS (by omega) _).any) (grown_below a5 (hsz.setCell (show w.heap.size ≤ gm by omega) _))
    by_cases c3x : x = 3
    · subst c3x
      clear c0 c1x c2x
      have hpos : 2 ≤ vs.length := by have := hR.ok.len; have := (hR.ok.g (hR.ne (by omega))).ge; omega
      obtain ⟨g, cg, hvg⟩ : ∃ g cg, A2 = some ⟨g, 0, none⟩ ∧ c2 = cg := by
        rcases q3.form with ⟨h1, h2⟩ | ⟨g, cap, h1, _⟩
        · rw [h2] at hpos; simp at hpos
        · injection h1 with a1 a2 a3; exact ⟨g, c2, a1, rfl⟩
      obtain ⟨rfl, rfl⟩ := hvg
      obtain ⟨N, hN⟩ : ∃ N, vs.length = N := ⟨_, rfl⟩
      have hNH := hide hN
      have hcap : N ≤ c2 := by
        rcases q3.form with ⟨h1, h2⟩ | ⟨g, cap, h1, _, _, h4⟩
        · injection h1 with h1; cases h1
        · injection h1 with a1 a2 a3; omega
      have z1 : ¬ c2 - 1 = 0 := by omega
      have z2 : ¬ ((c2 : Int) - 1) = 0 := by omega
      have q3' := q3
      rw [hN] at q1 q3'  hpos
      clear hN
      have j0 := q1.cell 0
      have j1 := q1.cell 1
      have j2 := q1.cell 2
      have f2 := q1.frozen 2
      have i1 : (1 : Int) ≤ (N : Int) := by omega
      have i2 : (N : Int) ≤ (c2 : Int) := by omega
      go_wp2_with fail
      go_meet
      have hN1 : N - 1 = (vs.drop 1).length := by rw [List.length_drop, hNH.out]
      obtain ⟨A1', c1', e1, s1⟩ := q2.slS hR.rng1 s4.e
      obtain ⟨rfl, rfl⟩ : A1 = A1' ∧ c1 = c1' := by injection e1 with a _ b; exact ⟨a, b⟩
      obtain ⟨A2', c2', e2, s2⟩ := q3.slS hR.rng2 s4.e
      obtain ⟨rfl, rfl⟩ : (some ⟨g, 0, none⟩ : Option Addr) = A2' ∧ c2 = c2' := by injection e2 with a _ b; exact ⟨a, b⟩
      have m1 := q2.slR hR.rng1 q1 (by decide) rfl
      have m2 := q3.slR hR.rng2 q1 (by decide) rfl
      have n1 := q2.slR hR.rng1 q6 (by decide) rfl
      have n2 := q3.slR hR.rng2 q6 (by decide) rfl
      have b2 := q1.store 2 (.slice (some ⟨g, 1, none⟩) (N - 1) (c2 - 1))
      have t2 := slS_set (i := 2) (v := .slice (some ⟨g, 1, none⟩) (N - 1) (c2 - 1)) (slS_tail s2 (by rw [hNH.out]; omega)) (slS_tail m2 (by rw [hNH.out]; omega))
      have t3 := slS_set (i := 2) (v := .slice (some ⟨g, 1, none⟩) (N - 1) (c2 - 1)) (slS_tail n2 (by rw [hNH.out]; omega)) (slS_tail m2 (by rw [hNH.out]; omega))
      have t1 := slS_set (i := 2) (v := .slice (some ⟨g, 1, none⟩) (N - 1) (c2 - 1)) s1 m1
      have t0 := slS_set (i := 2) (v := .slice (some ⟨g, 1, none⟩) (N - 1) (c2 - 1)) n1 m1
      rw [show vs.length - 1 = (vs.drop 1).length by simp] at t2 t3
      have hNN : N - 1 = (vs.drop 1).length := hN1
      rw [hNN] at b2 t0 t1 t2 t3 ⊢
      exact ⟨⟨A1, c1, some ⟨g, 1, none⟩, c2 - 1, os, q, vs.drop 1, b2, ⟨by omega, by simp; omega, ⟨by omega, by omega⟩⟩, t1, t2, t0, t3, q2.loB, fun b off sp e _ => by injection e with e; injection e with e1 _ _; rw [← e1]; exact (q3.lt g rfl).1⟩, q6.far (show w.heap.size ≠ gm by omega) _, (s4.e.store hgS (by omega) _).any, grown_below q5 ((Below.refl _ _).setCell (show w.heap.size ≤ gm by omega) _)⟩
    · go_wp2_with fail
      go_meet
      exact spM_of q1 rfl rfl q2 q3 hR.rng1 hR.rng2 hG0.out q6 s4 q5
end Go.Proofs.YtonehmjoolflfaaGreatDoor
