
/- The law FnExactMetricFrom, out of the contracts of both sides. -/
import Derived.Test.YtmnljlefjafcdaaLO
import Derived.Test.YtmnljlefjafcdaaOpM
import Derived.Test.YtmnljlefjafcdaaMF2
import Derived.WalkLawsBesides
namespace Go.Proofs.Ytmnljlefjafcdaa
open Go Go.RowKit Grp
set_option linter.unusedSimpArgs false
set_option linter.unusedVariables false

set_option maxRecDepth 100000 in
set_option maxHeartbeats 16000000 in
theorem law_Mf_core {w : World} (A : Option Addr) (n c : Nat) (os : List Int) (h0 : SlIn w A n c os) (D : Int) (A' : Option Addr) (n' c' : Nat) (sq : List Int) (h1 : SlIn w A' n' c' sq) (A'' : Option Addr) (n'' c'' : Nat) (pr : List Int) (h2 : SlIn w A'' n'' c'' pr)
    (ro rv : List Int) (rq code : Int)
    (hsp : Hid (∀ (W : World) (A : Option Addr) (c : Nat) (A' : Option Addr) (c' : Nat) (A'' : Option Addr) (c'' : Nat), Sl W W.heap.size A os.length c os → Sl W W.heap.size A' sq.length c' sq → Sl W W.heap.size A'' pr.length c'' pr → os.length ≤ 1048576 → sq.length ≤ 1048576 → pr.length ≤ 1048576 → Calls Try.prog 29 #[.slice A os.length c, .int .i64 D, .slice A' sq.length c', .slice A'' pr.length c''] W (MkM W ro rq rv code)))
    (him : Hid (∀ (W : World) (A : Option Addr) (c : Nat) (A' : Option Addr) (c' : Nat) (A'' : Option Addr) (c'' : Nat), Sl W W.heap.size A os.length c os → Sl W W.heap.size A' sq.length c' sq → Sl W W.heap.size A'' pr.length c'' pr → os.length ≤ 1048576 → sq.length ≤ 1048576 → pr.length ≤ 1048576 → Calls Try.prog 31 #[.slice A os.length c, .int .i64 D, .slice A' sq.length c', .slice A'' pr.length c''] W (MkM W ro rq rv code)))
    (hr1 : Hid (∀ x ∈ ro, i64ok x)) (hr2 : Hid (∀ x ∈ rv, i64ok x)) (hl1 : Hid (ro.length ≤ 1048576)) (hl2 : Hid (rv.length ≤ 1048576)) :
    Calls Try.prog 6 #[.slice A n c, .int .i64 D, .slice A' n' c', .slice A'' n'' c''] w (Re w (.bool true)) := by
  obtain ⟨h, hnm⟩ := h0
  obtain ⟨h', hnm'⟩ := h1
  obtain ⟨h'', hnm''⟩ := h2
  obtain rfl := h.len
  obtain rfl := h'.len
  obtain rfl := h''.len
  by_cases hn : os.length ≤ 1048576
  case neg =>
    have hli : (1048576 : Int) < (os.length : Int) := by omega
    go_enter Try.func6, Try.ntmps6
    go_wp2
    go_ret
    exact ⟨rfl, (by repeat (first | assumption | exact Below.refl _ _ | apply below_drewN | apply Below.drew | apply Below.alloc | apply Below.setCell | omega | (focus (simp; done)) | (focus (simp; omega))))⟩
  have hli : (os.length : Int) ≤ (1048576 : Int) := by omega
  by_cases hn' : sq.length ≤ 1048576
  case neg =>
    have hli' : (1048576 : Int) < (sq.length : Int) := by omega
    go_enter Try.func6, Try.ntmps6
    go_wp2
    go_ret
    exact ⟨rfl, (by repeat (first | assumption | exact Below.refl _ _ | apply below_drewN | apply Below.drew | apply Below.alloc | apply Below.setCell | omega | (focus (simp; done)) | (focus (simp; omega))))⟩
  have hli' : (sq.length : Int) ≤ (1048576 : Int) := by omega
  by_cases hn'' : pr.length ≤ 1048576
  case neg =>
    have hli'' : (1048576 : Int) < (pr.length : Int) := by omega
    go_enter Try.func6, Try.ntmps6
    go_wp2
    go_ret
    exact ⟨rfl, (by repeat (first | assumption | exact Below.refl _ _ | apply below_drewN | apply Below.drew | apply Below.alloc | apply Below.setCell | omega | (focus (simp; done)) | (focus (simp; omega))))⟩
  have hli'' : (pr.length : Int) ≤ (1048576 : Int) := by omega
  have hsl : ∀ {wd}, Below w.heap.size w wd → Sl wd wd.heap.size A os.length c os := fun q => (h.below q).more q.size
  have hsl' : ∀ {wd}, Below w.heap.size w wd → Sl wd wd.heap.size A' sq.length c' sq := fun q => (h'.below q).more q.size
  have hsl'' : ∀ {wd}, Below w.heap.size w wd → Sl wd wd.heap.size A'' pr.length c'' pr := fun q => (h''.below q).more q.size
  have kk : Below w.heap.size w w := Below.refl _ _
  go_enter Try.func6, Try.ntmps6
  go_wp2_with fail
  refine (toInt64S_any _ _ _ _ _ _ (hsl kk) (Nat.le_refl _) hn).mono ?_
  rintro e wi ⟨vn, rfl, hnew, hbi⟩
  replace kk := kk.trans (hbi.mono kk.size)
  (try replace ha1 := ha1.below hbi)
  (try replace ha2 := ha2.below hbi)
  (try replace hx0 := hx0.below hbi)
  (try replace hx2 := hx2.below hbi)
  (try replace hx3 := hx3.below hbi)
  (try replace hg1 := hg1.below hbi)
  (try replace hg2 := hg2.below hbi)
  (try replace t0 := (t0.below hbi).more hbi.size)
  (try replace t2 := (t2.below hbi).more hbi.size)
  (try replace t3 := (t3.below hbi).more hbi.size)
  (try replace bY := bY.all hbi)
  (try replace bZ := bZ.all hbi)
  (try clear hbi)
  obtain ⟨An, cn, rfl, t0⟩ := hnew.sl h.rng
  clear hnew
  go_wp2_with fail
  refine (toInt64S_any _ _ _ _ _ _ (hsl' kk) (Nat.le_refl _) hn').mono ?_
  rintro e wi ⟨vn, rfl, hnew, hbi⟩
  replace kk := kk.trans (hbi.mono kk.size)
  (try replace ha1 := ha1.below hbi)
  (try replace ha2 := ha2.below hbi)
  (try replace hx0 := hx0.below hbi)
  (try replace hx2 := hx2.below hbi)
  (try replace hx3 := hx3.below hbi)
  (try replace hg1 := hg1.below hbi)
  (try replace hg2 := hg2.below hbi)
  (try replace t0 := (t0.below hbi).more hbi.size)
  (try replace t2 := (t2.below hbi).more hbi.size)
  (try replace t3 := (t3.below hbi).more hbi.size)
  (try replace bY := bY.all hbi)
  (try replace bZ := bZ.all hbi)
  (try clear hbi)
  obtain ⟨An, cn, rfl, t2⟩ := hnew.sl h'.rng
  clear hnew
  go_wp2_with fail
  refine (toInt64S_any _ _ _ _ _ _ (hsl'' kk) (Nat.le_refl _) hn'').mono ?_
  rintro e wi ⟨vn, rfl, hnew, hbi⟩
  replace kk := kk.trans (hbi.mono kk.size)
  (try replace ha1 := ha1.below hbi)
  (try replace ha2 := ha2.below hbi)
  (try replace hx0 := hx0.below hbi)
  (try replace hx2 := hx2.below hbi)
  (try replace hx3 := hx3.below hbi)
  (try replace hg1 := hg1.below hbi)
  (try replace hg2 := hg2.below hbi)
  (try replace t0 := (t0.below hbi).more hbi.size)
  (try replace t2 := (t2.below hbi).more hbi.size)
  (try replace t3 := (t3.below hbi).more hbi.size)
  (try replace bY := bY.all hbi)
  (try replace bZ := bZ.all hbi)
  (try clear hbi)
  obtain ⟨An, cn, rfl, t3⟩ := hnew.sl h''.rng
  clear hnew
  go_wp2_with fail
  refine (hsp.out _ _ _ _ _ _ _ t0 t2 t3 hn hn' hn'').mono ?_
  rintro e w1 ⟨a1, a2, rfl, ha1, ha2, -, hb1⟩
  clear t0 t2 t3
  have hkk := kk.size
  replace ha1 := ha1.less hkk
  replace ha2 := ha2.less hkk
  replace kk := kk.trans (hb1.mono hkk)
  clear hb1 hkk
  obtain ⟨Aw1, cw1, rfl⟩ := ha1.val
  obtain ⟨Aw2, cw2, rfl⟩ := ha2.val
  obtain ⟨Y, hXY⟩ : ∃ X, w1.heap.size = X := ⟨_, rfl⟩
  obtain ⟨w1', hWY⟩ : ∃ wn, w1.alloc (.cells #[.slice Aw1 ro.length cw1, .int .i64 rq, .slice Aw2 rv.length cw2] 28) = wn := ⟨_, rfl⟩
  have bY : Blk w1' Y 28 #[.slice Aw1 ro.length cw1, .int .i64 rq, .slice Aw2 rv.length cw2] := by rw [← hWY]; exact Blk.new' _ _ _ _ hXY
  have hb1' : Below w1.heap.size w1 w1' := by rw [← hWY]; exact (Below.refl _ _).alloc (Nat.le_refl _) _
  replace kk := kk.trans (hb1'.mono kk.size)
  (try replace ha1 := ha1.below hb1')
  (try replace ha2 := ha2.below hb1')
  (try replace hx0 := hx0.below hb1')
  (try replace hx2 := hx2.below hb1')
  (try replace hx3 := hx3.below hb1')
  (try replace hg1 := hg1.below hb1')
  (try replace hg2 := hg2.below hb1')
  (try replace t0 := (t0.below hb1').more hb1'.size)
  (try replace t2 := (t2.below hb1').more hb1'.size)
  (try replace t3 := (t3.below hb1').more hb1'.size)
  (try replace bY := bY.all hb1')
  (try replace bZ := bZ.all hb1')
  (try clear hb1')
  go_wp2_with fail
  clear hXY hWY
  refine (toInt64S_any _ _ _ _ _ _ (hsl kk) (Nat.le_refl _) hn).mono ?_
  rintro e w2 ⟨x0, rfl, hx0, hb2⟩
  have ax01 := ha1.apart hx0 (Nat.le_refl _)
  have ax02 := ha2.apart hx0 (Nat.le_refl _)
  have hx0' := hx0.less kk.size
  clear hx0
  replace kk := kk.trans (hb2.mono kk.size)
  (try replace ha1 := ha1.below hb2)
  (try replace ha2 := ha2.below hb2)
  (try replace hx0 := hx0.below hb2)
  (try replace hx2 := hx2.below hb2)
  (try replace hx3 := hx3.below hb2)
  (try replace hg1 := hg1.below hb2)
  (try replace hg2 := hg2.below hb2)
  (try replace t0 := (t0.below hb2).more hb2.size)
  (try replace t2 := (t2.below hb2).more hb2.size)
  (try replace t3 := (t3.below hb2).more hb2.size)
  (try replace bY := bY.all hb2)
  (try replace bZ := bZ.all hb2)
  (try clear hb2)
  have hx0 := hx0'
  clear hx0'
  obtain ⟨X0, c0, rfl⟩ := hx0.val
  go_wp2_with fail
  refine (toInt64S_any _ _ _ _ _ _ (hsl' kk) (Nat.le_refl _) hn').mono ?_
  rintro e w3 ⟨x2, rfl, hx2, hb3⟩
  have ax21 := ha1.apart hx2 (Nat.le_refl _)
  have ax22 := ha2.apart hx2 (Nat.le_refl _)
  have xx02 := hx0.apart hx2 (Nat.le_refl _)
  have hx2' := hx2.less kk.size
  clear hx2
  replace kk := kk.trans (hb3.mono kk.size)
  (try replace ha1 := ha1.below hb3)
  (try replace ha2 := ha2.below hb3)
  (try replace hx0 := hx0.below hb3)
  (try replace hx2 := hx2.below hb3)
  (try replace hx3 := hx3.below hb3)
  (try replace hg1 := hg1.below hb3)
  (try replace hg2 := hg2.below hb3)
  (try replace t0 := (t0.below hb3).more hb3.size)
  (try replace t2 := (t2.below hb3).more hb3.size)
  (try replace t3 := (t3.below hb3).more hb3.size)
  (try replace bY := bY.all hb3)
  (try replace bZ := bZ.all hb3)
  (try clear hb3)
  have hx2 := hx2'
  clear hx2'
  obtain ⟨X2, d2, rfl⟩ := hx2.val
  go_wp2_with fail
  refine (toInt64S_any _ _ _ _ _ _ (hsl'' kk) (Nat.le_refl _) hn'').mono ?_
  rintro e w4 ⟨x3, rfl, hx3, hb4⟩
  have ax31 := ha1.apart hx3 (Nat.le_refl _)
  have ax32 := ha2.apart hx3 (Nat.le_refl _)
  have xx03 := hx0.apart hx3 (Nat.le_refl _)
  have xx23 := hx2.apart hx3 (Nat.le_refl _)
  have hx3' := hx3.less kk.size
  clear hx3
  replace kk := kk.trans (hb4.mono kk.size)
  (try replace ha1 := ha1.below hb4)
  (try replace ha2 := ha2.below hb4)
  (try replace hx0 := hx0.below hb4)
  (try replace hx2 := hx2.below hb4)
  (try replace hx3 := hx3.below hb4)
  (try replace hg1 := hg1.below hb4)
  (try replace hg2 := hg2.below hb4)
  (try replace t0 := (t0.below hb4).more hb4.size)
  (try replace t2 := (t2.below hb4).more hb4.size)
  (try replace t3 := (t3.below hb4).more hb4.size)
  (try replace bY := bY.all hb4)
  (try replace bZ := bZ.all hb4)
  (try clear hb4)
  have hx3 := hx3'
  clear hx3'
  obtain ⟨X3, d3, rfl⟩ := hx3.val
  have t0 := hx0.here rfl h.rng
  have t2 := hx2.here rfl h'.rng
  have t3 := hx3.here rfl h''.rng
  go_wp2_with fail
  refine (him.out _ _ _ _ _ _ _ t0 t2 t3 hn hn' hn'').mono ?_
  rintro e w6 ⟨g1, g2, rfl, hg1, hg2, hgap, hb6⟩
  clear t0 t2 t3
  have ag11 := ha1.apart hg1 (Nat.le_refl _)
  have ag12 := ha1.apart hg2 (Nat.le_refl _)
  have ag21 := ha2.apart hg1 (Nat.le_refl _)
  have ag22 := ha2.apart hg2 (Nat.le_refl _)
  have xg01 := (hx0.apart hg1 (Nat.le_refl _)).symm
  have xg02 := (hx0.apart hg2 (Nat.le_refl _)).symm
  have xg21 := (hx2.apart hg1 (Nat.le_refl _)).symm
  have xg22 := (hx2.apart hg2 (Nat.le_refl _)).symm
  have xg31 := (hx3.apart hg1 (Nat.le_refl _)).symm
  have xg32 := (hx3.apart hg2 (Nat.le_refl _)).symm
  have hg1' := hg1.less kk.size
  have hg2' := hg2.less kk.size
  clear hg1 hg2
  replace kk := kk.trans (hb6.mono kk.size)
  (try replace ha1 := ha1.below hb6)
  (try replace ha2 := ha2.below hb6)
  (try replace hx0 := hx0.below hb6)
  (try replace hx2 := hx2.below hb6)
  (try replace hx3 := hx3.below hb6)
  (try replace hg1 := hg1.below hb6)
  (try replace hg2 := hg2.below hb6)
  (try replace t0 := (t0.below hb6).more hb6.size)
  (try replace t2 := (t2.below hb6).more hb6.size)
  (try replace t3 := (t3.below hb6).more hb6.size)
  (try replace bY := bY.all hb6)
  (try replace bZ := bZ.all hb6)
  (try clear hb6)
  have hg1 := hg1'
  have hg2 := hg2'
  clear hg1' hg2'
  obtain ⟨G1, dg1, rfl⟩ := hg1.val
  obtain ⟨G2, dg2, rfl⟩ := hg2.val
  obtain ⟨Z, hXZ⟩ : ∃ X, w6.heap.size = X := ⟨_, rfl⟩
  obtain ⟨w6', hWZ⟩ : ∃ wn, w6.alloc (.cells #[.slice G1 ro.length dg1, .int .i64 rq, .slice G2 rv.length dg2] 28) = wn := ⟨_, rfl⟩
  have bZ : Blk w6' Z 28 #[.slice G1 ro.length dg1, .int .i64 rq, .slice G2 rv.length dg2] := by rw [← hWZ]; exact Blk.new' _ _ _ _ hXZ
  have hb6' : Below w6.heap.size w6 w6' := by rw [← hWZ]; exact (Below.refl _ _).alloc (Nat.le_refl _) _
  replace kk := kk.trans (hb6'.mono kk.size)
  (try replace ha1 := ha1.below hb6')
  (try replace ha2 := ha2.below hb6')
  (try replace hx0 := hx0.below hb6')
  (try replace hx2 := hx2.below hb6')
  (try replace hx3 := hx3.below hb6')
  (try replace hg1 := hg1.below hb6')
  (try replace hg2 := hg2.below hb6')
  (try replace t0 := (t0.below hb6').more hb6'.size)
  (try replace t2 := (t2.below hb6').more hb6'.size)
  (try replace t3 := (t3.below hb6').more hb6'.size)
  (try replace bY := bY.all hb6')
  (try replace bZ := bZ.all hb6')
  (try clear hb6')
  have x0 := bY.cell 0
  have x1 := bY.cell 1
  have x2 := bY.cell 2
  have v0 := bZ.cell 0
  have v1 := bZ.cell 1
  have v2 := bZ.cell 2
  go_wp2_with fail
  clear x0 x1 x2 v0 v1 v2 hXZ hWZ
  refine (eqMetric_any _ _ _ _ _ _ _ _ _ _ _ _ _ _ _ _ _ _ _ _ (hg1.here rfl hr1.out) (hg2.here rfl hr2.out) (ha1.here rfl hr1.out) (ha2.here rfl hr2.out) (Nat.le_refl _) hl1.out hl2.out).mono ?_
  rintro e w7 ⟨rfl, hb7⟩
  simp only [beq_self_eq_true, Bool.and_self]
  replace kk := kk.trans (hb7.mono kk.size)
  (try replace ha1 := ha1.below hb7)
  (try replace ha2 := ha2.below hb7)
  (try replace hx0 := hx0.below hb7)
  (try replace hx2 := hx2.below hb7)
  (try replace hx3 := hx3.below hb7)
  (try replace hg1 := hg1.below hb7)
  (try replace hg2 := hg2.below hb7)
  (try replace t0 := (t0.below hb7).more hb7.size)
  (try replace t2 := (t2.below hb7).more hb7.size)
  (try replace t3 := (t3.below hb7).more hb7.size)
  (try replace bY := bY.all hb7)
  (try replace bZ := bZ.all hb7)
  (try clear hb7)
  go_wp2_with fail
  refine (toInt64S_any _ _ _ _ _ _ (hsl kk) (Nat.le_refl _) hn).mono ?_
  rintro e wi ⟨vn, rfl, hnew, hbi⟩
  replace kk := kk.trans (hbi.mono kk.size)
  (try replace ha1 := ha1.below hbi)
  (try replace ha2 := ha2.below hbi)
  (try replace hx0 := hx0.below hbi)
  (try replace hx2 := hx2.below hbi)
  (try replace hx3 := hx3.below hbi)
  (try replace hg1 := hg1.below hbi)
  (try replace hg2 := hg2.below hbi)
  (try replace t0 := (t0.below hbi).more hbi.size)
  (try replace t2 := (t2.below hbi).more hbi.size)
  (try replace t3 := (t3.below hbi).more hbi.size)
  (try replace bY := bY.all hbi)
  (try replace bZ := bZ.all hbi)
  (try clear hbi)
  obtain ⟨An, cn, rfl, u⟩ := hnew.sl h.rng
  clear hnew
  go_wp2_with fail
  refine ((eqInt64S_any _ _ _ _ _ _ _ _ _ _ _ (hx0.here rfl h.rng) u hn).mono fun _ _ h => Qt.re h).mono ?_
  rintro e w8 ⟨rfl, hb8⟩
  simp only [beq_self_eq_true]
  clear u
  replace kk := kk.trans (hb8.mono kk.size)
  (try replace ha1 := ha1.below hb8)
  (try replace ha2 := ha2.below hb8)
  (try replace hx0 := hx0.below hb8)
  (try replace hx2 := hx2.below hb8)
  (try replace hx3 := hx3.below hb8)
  (try replace hg1 := hg1.below hb8)
  (try replace hg2 := hg2.below hb8)
  (try replace t0 := (t0.below hb8).more hb8.size)
  (try replace t2 := (t2.below hb8).more hb8.size)
  (try replace t3 := (t3.below hb8).more hb8.size)
  (try replace bY := bY.all hb8)
  (try replace bZ := bZ.all hb8)
  (try clear hb8)
  go_wp2_with fail
  refine (toInt64S_any _ _ _ _ _ _ (hsl' kk) (Nat.le_refl _) hn').mono ?_
  rintro e wi ⟨vn, rfl, hnew, hbi⟩
  replace kk := kk.trans (hbi.mono kk.size)
  (try replace ha1 := ha1.below hbi)
  (try replace ha2 := ha2.below hbi)
  (try replace hx0 := hx0.below hbi)
  (try replace hx2 := hx2.below hbi)
  (try replace hx3 := hx3.below hbi)
  (try replace hg1 := hg1.below hbi)
  (try replace hg2 := hg2.below hbi)
  (try replace t0 := (t0.below hbi).more hbi.size)
  (try replace t2 := (t2.below hbi).more hbi.size)
  (try replace t3 := (t3.below hbi).more hbi.size)
  (try replace bY := bY.all hbi)
  (try replace bZ := bZ.all hbi)
  (try clear hbi)
  obtain ⟨An, cn, rfl, u⟩ := hnew.sl h'.rng
  clear hnew
  go_wp2_with fail
  refine ((eqInt64S_any _ _ _ _ _ _ _ _ _ _ _ (hx2.here rfl h'.rng) u hn').mono fun _ _ h => Qt.re h).mono ?_
  rintro e w9 ⟨rfl, hb9⟩
  simp only [beq_self_eq_true]
  clear u
  replace kk := kk.trans (hb9.mono kk.size)
  (try replace ha1 := ha1.below hb9)
  (try replace ha2 := ha2.below hb9)
  (try replace hx0 := hx0.below hb9)
  (try replace hx2 := hx2.below hb9)
  (try replace hx3 := hx3.below hb9)
  (try replace hg1 := hg1.below hb9)
  (try replace hg2 := hg2.below hb9)
  (try replace t0 := (t0.below hb9).more hb9.size)
  (try replace t2 := (t2.below hb9).more hb9.size)
  (try replace t3 := (t3.below hb9).more hb9.size)
  (try replace bY := bY.all hb9)
  (try replace bZ := bZ.all hb9)
  (try clear hb9)
  go_wp2_with fail
  refine (toInt64S_any _ _ _ _ _ _ (hsl'' kk) (Nat.le_refl _) hn'').mono ?_
  rintro e wi ⟨vn, rfl, hnew, hbi⟩
  replace kk := kk.trans (hbi.mono kk.size)
  (try replace ha1 := ha1.below hbi)
  (try replace ha2 := ha2.below hbi)
  (try replace hx0 := hx0.below hbi)
  (try replace hx2 := hx2.below hbi)
  (try replace hx3 := hx3.below hbi)
  (try replace hg1 := hg1.below hbi)
  (try replace hg2 := hg2.below hbi)
  (try replace t0 := (t0.below hbi).more hbi.size)
  (try replace t2 := (t2.below hbi).more hbi.size)
  (try replace t3 := (t3.below hbi).more hbi.size)
  (try replace bY := bY.all hbi)
  (try replace bZ := bZ.all hbi)
  (try clear hbi)
  obtain ⟨An, cn, rfl, u⟩ := hnew.sl h''.rng
  clear hnew
  go_wp2_with fail
  refine ((eqInt64S_any _ _ _ _ _ _ _ _ _ _ _ (hx3.here rfl h''.rng) u hn'').mono fun _ _ h => Qt.re h).mono ?_
  rintro e w10 ⟨rfl, hb10⟩
  simp only [beq_self_eq_true]
  clear u
  replace kk := kk.trans (hb10.mono kk.size)
  (try replace ha1 := ha1.below hb10)
  (try replace ha2 := ha2.below hb10)
  (try replace hx0 := hx0.below hb10)
  (try replace hx2 := hx2.below hb10)
  (try replace hx3 := hx3.below hb10)
  (try replace hg1 := hg1.below hb10)
  (try replace hg2 := hg2.below hb10)
  (try replace t0 := (t0.below hb10).more hb10.size)
  (try replace t2 := (t2.below hb10).more hb10.size)
  (try replace t3 := (t3.below hb10).more hb10.size)
  (try replace bY := bY.all hb10)
  (try replace bZ := bZ.all hb10)
  (try clear hb10)
  go_wp2_with fail
  refine (markInt64S_any _ _ _ _ _ hx0 hn (by omega) (by omega)).mono ?_
  rintro e w11 hM
  replace kk := kk.trans (hM.keep hx0 (Nat.le_refl _) kk.size)
  replace ha1 := ha1.far hM.2.2 ax01
  replace ha2 := ha2.far hM.2.2 ax02
  replace hx2 := hx2.far hM.2.2 xx02.symm
  replace hx3 := hx3.far hM.2.2 xx03.symm
  replace hg1 := hg1.far hM.2.2 xg01
  replace hg2 := hg2.far hM.2.2 xg02
  replace bY := bY.grown hM.2.2 (hx0.blk_ne bY (by decide))
  replace bZ := bZ.grown hM.2.2 (hx0.blk_ne bZ (by decide))
  obtain ⟨rfl, -⟩ := hM
  clear hx0
  obtain ⟨k1, hk1, hk10, hk11⟩ : ∃ k : Int, 1 + (os.length : Int) = k ∧ 0 ≤ k ∧ k ≤ 2000000 := ⟨_, rfl, by omega, by omega⟩
  rw [hk1]
  have HK1 := hide hk1
  clear hk1
  go_wp2_with fail
  refine (markInt64S_any _ _ _ _ _ hx2 hn' hk10 (by omega)).mono ?_
  rintro e w12 hM
  replace kk := kk.trans (hM.keep hx2 (Nat.le_refl _) kk.size)
  replace ha1 := ha1.far hM.2.2 ax21
  replace ha2 := ha2.far hM.2.2 ax22
  replace hx3 := hx3.far hM.2.2 xx23.symm
  replace hg1 := hg1.far hM.2.2 xg21
  replace hg2 := hg2.far hM.2.2 xg22
  replace bY := bY.grown hM.2.2 (hx2.blk_ne bY (by decide))
  replace bZ := bZ.grown hM.2.2 (hx2.blk_ne bZ (by decide))
  obtain ⟨rfl, -⟩ := hM
  clear hx2
  obtain ⟨k2, hk2, hk20, hk21⟩ : ∃ k : Int, k1 + (sq.length : Int) = k ∧ 0 ≤ k ∧ k ≤ 4000000 := ⟨_, rfl, by omega, by omega⟩
  rw [hk2]
  have HK2 := hide hk2
  clear hk2
  go_wp2_with fail
  refine (markInt64S_any _ _ _ _ _ hx3 hn'' hk20 (by omega)).mono ?_
  rintro e w13 hM
  replace kk := kk.trans (hM.keep hx3 (Nat.le_refl _) kk.size)
  replace ha1 := ha1.far hM.2.2 ax31
  replace ha2 := ha2.far hM.2.2 ax32
  replace hg1 := hg1.far hM.2.2 xg31
  replace hg2 := hg2.far hM.2.2 xg32
  replace bY := bY.grown hM.2.2 (hx3.blk_ne bY (by decide))
  replace bZ := bZ.grown hM.2.2 (hx3.blk_ne bZ (by decide))
  obtain ⟨rfl, -⟩ := hM
  clear hx3
  obtain ⟨k3, hk3, hk30, hk31⟩ : ∃ k : Int, k2 + (pr.length : Int) = k ∧ 0 ≤ k ∧ k ≤ 6000000 := ⟨_, rfl, by omega, by omega⟩
  rw [hk3]
  have HK3 := hide hk3
  clear hk3
  have x0 := bY.cell 0
  have x1 := bY.cell 1
  have x2 := bY.cell 2
  have v0 := bZ.cell 0
  have v1 := bZ.cell 1
  have v2 := bZ.cell 2
  go_wp2_with fail
  clear x0 x1 x2 v0 v1 v2
  refine (eqMetric_any _ _ _ _ _ _ _ _ _ _ _ _ _ _ _ _ _ _ _ _ (hg1.here rfl hr1.out) (hg2.here rfl hr2.out) (ha1.here rfl hr1.out) (ha2.here rfl hr2.out) (Nat.le_refl _) hl1.out hl2.out).mono ?_
  rintro e w14 ⟨rfl, hb14⟩
  simp only [beq_self_eq_true, Bool.and_self]
  replace kk := kk.trans (hb14.mono kk.size)
  (try replace ha1 := ha1.below hb14)
  (try replace ha2 := ha2.below hb14)
  (try replace hx0 := hx0.below hb14)
  (try replace hx2 := hx2.below hb14)
  (try replace hx3 := hx3.below hb14)
  (try replace hg1 := hg1.below hb14)
  (try replace hg2 := hg2.below hb14)
  (try replace t0 := (t0.below hb14).more hb14.size)
  (try replace t2 := (t2.below hb14).more hb14.size)
  (try replace t3 := (t3.below hb14).more hb14.size)
  (try replace bY := bY.all hb14)
  (try replace bZ := bZ.all hb14)
  (try clear hb14)
  have hL1 := hl1.out
  have hL2 := hl2.out
  have v0 := bZ.cell 0
  have v1 := bZ.cell 1
  have v2 := bZ.cell 2
  go_wp2_with fail
  clear v0 v1 v2
  refine (markMetric_any _ _ _ _ _ _ _ _ hg1 hg2 hgap hL1 hL2 (by omega) (by omega)).mono ?_
  rintro e w15 hM
  replace kk := kk.trans (hM.keep (Nat.le_refl _) kk.size hg1 hg2)
  replace ha1 := hM.ow ha1 ag11 ag12
  replace ha2 := hM.ow ha2 ag21 ag22
  replace bY := hM.blk bY (by decide) hg1 hg2
  replace bZ := hM.blk bZ (by decide) hg1 hg2
  obtain ⟨rfl, hm1, hm2, -⟩ := hM
  have sm1 := hm1.here (marks_length _ _) (marks_rng _ _ (by omega) (by omega) hL1)
  have sm2 := hm2.here (marks_length _ _) (marks_rng _ _ (by omega) (by omega) hL2)
  clear hg1 hg2
  have hg1 := hm1
  have hg2 := hm2
  clear hm1 hm2
  obtain ⟨mm, hmm, hmm0⟩ : ∃ mm : Int, 1 + (ro.length : Int) + (rv.length : Int) = mm ∧ 0 ≤ mm := ⟨_, rfl, by omega⟩
  have hmk : heldM 1 (marks 1 ro.length) (marks (1 + ro.length) rv.length) = mm := by
    have e1 : heldI 1 (marks 1 ro.length) = 1 + ro.length := heldI_marks _ _
    have e2 : heldI (1 + ro.length) (marks (1 + ro.length) rv.length) = 1 + ro.length + rv.length := heldI_marks _ _
    rw [heldM_3 (by rw [e1]; omega) (by rw [e1, e2]; omega), e1, e2, hmm]
  rw [hmm]
  have HMM := hide hmm
  have HMK := hide hmk
  clear hmm hmk
  have v0 := bZ.cell 0
  have v1 := bZ.cell 1
  have v2 := bZ.cell 2
  go_wp2_with fail
  clear v0 v1 v2
  refine (heldMetric_any _ _ _ _ _ _ _ _ _ 1 _ _ sm1 sm2 (Nat.le_refl _) hL1 hL2 (by omega) (by omega)).mono ?_
  rintro e w16 ⟨rfl, hb16⟩
  rw [HMK.out]
  replace kk := kk.trans (hb16.mono kk.size)
  (try replace ha1 := ha1.below hb16)
  (try replace ha2 := ha2.below hb16)
  (try replace hx0 := hx0.below hb16)
  (try replace hx2 := hx2.below hb16)
  (try replace hx3 := hx3.below hb16)
  (try replace hg1 := hg1.below hb16)
  (try replace hg2 := hg2.below hb16)
  (try replace t0 := (t0.below hb16).more hb16.size)
  (try replace t2 := (t2.below hb16).more hb16.size)
  (try replace t3 := (t3.below hb16).more hb16.size)
  (try replace bY := bY.all hb16)
  (try replace bZ := bZ.all hb16)
  (try clear hb16)
  clear sm1 sm2
  go_wp2_with fail
  refine (toInt64S_any _ _ _ _ _ _ (hsl kk) (Nat.le_refl _) hn).mono ?_
  rintro e wi ⟨vn, rfl, hnew, hbi⟩
  replace kk := kk.trans (hbi.mono kk.size)
  (try replace ha1 := ha1.below hbi)
  (try replace ha2 := ha2.below hbi)
  (try replace hx0 := hx0.below hbi)
  (try replace hx2 := hx2.below hbi)
  (try replace hx3 := hx3.below hbi)
  (try replace hg1 := hg1.below hbi)
  (try replace hg2 := hg2.below hbi)
  (try replace t0 := (t0.below hbi).more hbi.size)
  (try replace t2 := (t2.below hbi).more hbi.size)
  (try replace t3 := (t3.below hbi).more hbi.size)
  (try replace bY := bY.all hbi)
  (try replace bZ := bZ.all hbi)
  (try clear hbi)
  obtain ⟨An, cn, rfl, t0⟩ := hnew.sl h.rng
  clear hnew
  go_wp2_with fail
  refine (toInt64S_any _ _ _ _ _ _ (hsl' kk) (Nat.le_refl _) hn').mono ?_
  rintro e wi ⟨vn, rfl, hnew, hbi⟩
  replace kk := kk.trans (hbi.mono kk.size)
  (try replace ha1 := ha1.below hbi)
  (try replace ha2 := ha2.below hbi)
  (try replace hx0 := hx0.below hbi)
  (try replace hx2 := hx2.below hbi)
  (try replace hx3 := hx3.below hbi)
  (try replace hg1 := hg1.below hbi)
  (try replace hg2 := hg2.below hbi)
  (try replace t0 := (t0.below hbi).more hbi.size)
  (try replace t2 := (t2.below hbi).more hbi.size)
  (try replace t3 := (t3.below hbi).more hbi.size)
  (try replace bY := bY.all hbi)
  (try replace bZ := bZ.all hbi)
  (try clear hbi)
  obtain ⟨An, cn, rfl, t2⟩ := hnew.sl h'.rng
  clear hnew
  go_wp2_with fail
  refine (toInt64S_any _ _ _ _ _ _ (hsl'' kk) (Nat.le_refl _) hn'').mono ?_
  rintro e wi ⟨vn, rfl, hnew, hbi⟩
  replace kk := kk.trans (hbi.mono kk.size)
  (try replace ha1 := ha1.below hbi)
  (try replace ha2 := ha2.below hbi)
  (try replace hx0 := hx0.below hbi)
  (try replace hx2 := hx2.below hbi)
  (try replace hx3 := hx3.below hbi)
  (try replace hg1 := hg1.below hbi)
  (try replace hg2 := hg2.below hbi)
  (try replace t0 := (t0.below hbi).more hbi.size)
  (try replace t2 := (t2.below hbi).more hbi.size)
  (try replace t3 := (t3.below hbi).more hbi.size)
  (try replace bY := bY.all hbi)
  (try replace bZ := bZ.all hbi)
  (try clear hbi)
  obtain ⟨An, cn, rfl, t3⟩ := hnew.sl h''.rng
  clear hnew
  go_wp2_with fail
  refine (him.out _ _ _ _ _ _ _ t0 t2 t3 hn hn' hn'').mono ?_
  rintro e w17 ⟨k1', k2', rfl, hh1, hh2, -, hb17⟩
  clear t0 t2 t3
  replace kk := kk.trans (hb17.mono kk.size)
  (try replace ha1 := ha1.below hb17)
  (try replace ha2 := ha2.below hb17)
  (try replace hx0 := hx0.below hb17)
  (try replace hx2 := hx2.below hb17)
  (try replace hx3 := hx3.below hb17)
  (try replace hg1 := hg1.below hb17)
  (try replace hg2 := hg2.below hb17)
  (try replace t0 := (t0.below hb17).more hb17.size)
  (try replace t2 := (t2.below hb17).more hb17.size)
  (try replace t3 := (t3.below hb17).more hb17.size)
  (try replace bY := bY.all hb17)
  (try replace bZ := bZ.all hb17)
  (try clear hb17)
  obtain ⟨H1, dh1, rfl⟩ := hh1.val
  obtain ⟨H2, dh2, rfl⟩ := hh2.val
  obtain ⟨U, hXU⟩ : ∃ X, w17.heap.size = X := ⟨_, rfl⟩
  obtain ⟨w17', hWU⟩ : ∃ wn, w17.alloc (.cells #[.slice H1 ro.length dh1, .int .i64 rq, .slice H2 rv.length dh2] 28) = wn := ⟨_, rfl⟩
  have bU : Blk w17' U 28 #[.slice H1 ro.length dh1, .int .i64 rq, .slice H2 rv.length dh2] := by rw [← hWU]; exact Blk.new' _ _ _ _ hXU
  have hb17' : Below w17.heap.size w17 w17' := by rw [← hWU]; exact (Below.refl _ _).alloc (Nat.le_refl _) _
  replace hh1 := hh1.below hb17'
  replace hh2 := hh2.below hb17'
  replace kk := kk.trans (hb17'.mono kk.size)
  (try replace ha1 := ha1.below hb17')
  (try replace ha2 := ha2.below hb17')
  (try replace hx0 := hx0.below hb17')
  (try replace hx2 := hx2.below hb17')
  (try replace hx3 := hx3.below hb17')
  (try replace hg1 := hg1.below hb17')
  (try replace hg2 := hg2.below hb17')
  (try replace t0 := (t0.below hb17').more hb17'.size)
  (try replace t2 := (t2.below hb17').more hb17'.size)
  (try replace t3 := (t3.below hb17').more hb17'.size)
  (try replace bY := bY.all hb17')
  (try replace bZ := bZ.all hb17')
  (try clear hb17')
  have x0 := bU.cell 0
  have x1 := bU.cell 1
  have x2 := bU.cell 2
  have v0 := bY.cell 0
  have v1 := bY.cell 1
  have v2 := bY.cell 2
  go_wp2_with fail
  clear x0 x1 x2 v0 v1 v2 hXU hWU
  refine (eqMetric_any _ _ _ _ _ _ _ _ _ _ _ _ _ _ _ _ _ _ _ _ (hh1.here rfl hr1.out) (hh2.here rfl hr2.out) (ha1.here rfl hr1.out) (ha2.here rfl hr2.out) (Nat.le_refl _) hl1.out hl2.out).mono ?_
  rintro e w18 ⟨rfl, hb18⟩
  simp only [beq_self_eq_true, Bool.and_self]
  replace kk := kk.trans (hb18.mono kk.size)
  (try replace ha1 := ha1.below hb18)
  (try replace ha2 := ha2.below hb18)
  (try replace hx0 := hx0.below hb18)
  (try replace hx2 := hx2.below hb18)
  (try replace hx3 := hx3.below hb18)
  (try replace hg1 := hg1.below hb18)
  (try replace hg2 := hg2.below hb18)
  (try replace t0 := (t0.below hb18).more hb18.size)
  (try replace t2 := (t2.below hb18).more hb18.size)
  (try replace t3 := (t3.below hb18).more hb18.size)
  (try replace bY := bY.all hb18)
  (try replace bZ := bZ.all hb18)
  (try clear hb18)
  have v0 := bZ.cell 0
  have v1 := bZ.cell 1
  have v2 := bZ.cell 2
  go_wp2_with fail
  clear v0 v1 v2
  refine (heldMetric_any _ _ _ _ _ _ _ _ _ 1 _ _ (hg1.here (marks_length _ _) (marks_rng _ _ (by omega) (by omega) hL1)) (hg2.here (marks_length _ _) (marks_rng _ _ (by omega) (by omega) hL2)) (Nat.le_refl _) hL1 hL2 (by omega) (by omega)).mono ?_
  rintro e w19 ⟨rfl, hb19⟩
  rw [HMK.out]
  replace kk := kk.trans (hb19.mono kk.size)
  go_wp2_with fail
  go_ret
  exact ⟨rfl, kk⟩

theorem law_MetricFrom {w : World} (A : Option Addr) (n c : Nat) (os : List Int) (h0 : SlIn w A n c os) (D : Int) (hD : (Lit.int .i64 D).wf = true) (A' : Option Addr) (n' c' : Nat) (sq : List Int) (h1 : SlIn w A' n' c' sq) (A'' : Option Addr) (n'' c'' : Nat) (pr : List Int) (h2 : SlIn w A'' n'' c'' pr) :
    Calls Try.prog 6 #[.slice A n c, .int .i64 D, .slice A' n' c', .slice A'' n'' c''] w (Re w (.bool true)) := by
  have hc : mfC os D sq pr = 0 → OkG os ∧ 1 ≤ D ∧ D ≤ 55440 := fun e => by
    unfold mfC at e
    by_cases hf : frm os D sq pr = true
    · simp only [frm, Bool.and_eq_true] at hf
      exact ⟨okG_iff.1 hf.1.1.1.1.1, (ordB_le hf.1.1.1.1.2).1, (ordB_le hf.1.1.1.1.2).2⟩
    · rw [if_neg hf] at e
      omega
  refine law_Mf_core A n c os h0 D A' n' c' sq h1 A'' n'' c'' pr h2 (gF (mfC os D sq pr) os) (gF (mfC os D sq pr) (valsF os D sq pr)) (gFI (mfC os D sq pr) D) (mfC os D sq pr) ?_ ?_ ?_ ?_ ?_ ?_
  · exact fun W A c A' c' A'' c'' a1 a2 a3 b1 b2 b3 => spec_Mf_any W A _ c os D A' _ c' sq A'' _ c'' pr a1 a2 a3 b1 b2 b3
  · exact fun W A c A' c' A'' c'' a1 a2 a3 b1 b2 b3 => impl_Mf_any W A _ c os D A' _ c' sq A'' _ c'' pr a1 a2 a3 b1 b2 b3
  · intro x hx
    unfold gF at hx
    split at hx
    · exact h0.sl.rng x hx
    · cases hx
  · intro x hx
    unfold gF at hx
    split at hx
    case isTrue e =>
      obtain ⟨_, d1, d2⟩ := hc e
      have := fromL_rng d1 x hx
      exact ⟨by omega, by omega⟩
    case isFalse => cases hx
  · show (gF (mfC os D sq pr) os).length ≤ 1048576
    unfold gF
    split
    case isTrue e =>
      have := (hc e).1.l4
      omega
    case isFalse => exact Nat.zero_le _
  · show (gF (mfC os D sq pr) (valsF os D sq pr)).length ≤ 1048576
    unfold gF
    split
    case isTrue e =>
      have := (hc e).1.p16
      unfold valsF
      rw [fromL_len]
      omega
    case isFalse => exact Nat.zero_le _
end Go.Proofs.Ytmnljlefjafcdaa
