
/- FnIsometries, plain: what the isometries of two metrics tell; a metric in memory; the calls at metrics. -/
import Derived.Test.YtonehmjoolflfaaGreatDoorCmb
import Derived.Test.YtonehmjoolflfaaGreatDoorIMd
import Derived.Test.YtonehmjoolflfaaGreatDoorPa
import Derived.Test.YtonehmjoolflfaaGreatDoorPMc
import Derived.Test.YtonehmjoolflfaaGreatDoorDG
namespace Go.Proofs.YtonehmjoolflfaaGreatDoor
open Go Go.RowKit Grp
set_option linter.unusedSimpArgs false
set_option linter.unusedVariables false
/-- A metric lies in block M; what lay before the law lies as it lay. -/
structure GM (w : World) (M : Nat) (A1 : Option Addr) (c1 : Nat) (A2 : Option Addr) (c2 : Nat) (os : List Int) (q : Int) (vs : List Int) (wx : World) : Prop where
  b : Blk wx M 26 #[.slice A1 os.length c1, .int .i64 q, .slice A2 vs.length c2]
  s1 : Sl wx wx.heap.size A1 os.length c1 os
  s2 : Sl wx wx.heap.size A2 vs.length c2 vs
  kk : Below w.heap.size w wx
section
variable {w wx wy : World} {M : Nat} {A1 A2 : Option Addr} {c1 c2 : Nat} {os vs : List Int} {q : Int}
theorem GM.all (h : GM w M A1 c1 A2 c2 os q vs wx) (hb : Below wx.heap.size wx wy) : GM w M A1 c1 A2 c2 os q vs wy :=
  ⟨h.b.all hb, (h.s1.below hb).more hb.size, (h.s2.below hb).more hb.size, h.kk.trans (hb.mono h.kk.size)⟩
theorem GM.new {A1 A2 : Option Addr} (s1 : Sl wx wx.heap.size A1 os.length c1 os) (s2 : Sl wx wx.heap.size A2 vs.length c2 vs) (kk : Below w.heap.size w wx) :
    GM w wx.heap.size A1 c1 A2 c2 os q vs (wx.alloc (.cells #[.slice A1 os.length c1, .int .i64 q, .slice A2 vs.length c2] 26)) :=
  have hb : Below wx.heap.size wx (wx.alloc (.cells #[.slice A1 os.length c1, .int .i64 q, .slice A2 vs.length c2] 26)) := (Below.refl _ _).alloc (Nat.le_refl _) _
  ⟨Blk.new _ _ _, (s1.below hb).more hb.size, (s2.below hb).more hb.size, kk.trans (hb.mono kk.size)⟩
theorem GM.r (h : GM w M A1 c1 A2 c2 os q vs wx) (hq : i64ok q) : metric_R wx wx.heap.size (.agg #[.slice A1 os.length c1, .int .i64 q, .slice A2 vs.length c2]) (os, q, vs) := ⟨A1, _, c1, A2, _, c2, rfl, h.s1, h.s2, hq⟩
theorem Sl.mov {A : Option Addr} {n c : Nat} {xs : List Int} (h : Sl wx wx.heap.size A n c xs) (hb : Below wx.heap.size wx wy) : Sl wy wy.heap.size A n c xs := (h.below hb).more hb.size
/-- A metric of the call's own, read. -/
theorem metric_sl {v : Value} {x : metric_T} {fp : Nat → Prop} (h : metric_E wx v x fp) : ∃ A c D e, v = .agg #[.slice A x.1.length c, .int .i64 x.2.1, .slice D x.2.2.length e] ∧ Sl wx wx.heap.size A x.1.length c x.1 ∧ Sl wx wx.heap.size D x.2.2.length e x.2.2 := by
  obtain ⟨A, n, c, D, m, e, rfl, h1, h2, h3⟩ := metric_rd h
  obtain rfl := h1.len
  obtain rfl := h2.len
  exact ⟨A, c, D, e, rfl, h1, h2⟩
end
section
variable {x y : metric_T}
theorem both_iff (h : bothM x y = true) : IsM x.1 x.2.1 x.2.2 ∧ IsM y.1 y.2.1 y.2.2 := by
  unfold bothM at h
  rw [Bool.and_eq_true] at h
  exact ⟨isM_iff.1 h.1, isM_iff.1 h.2⟩
theorem both_swap (x y : metric_T) : bothM y x = bothM x y := by unfold bothM; exact Bool.and_comm _ _
/-- The number of isometries, told of both directions. -/
theorem ci_back (h : ciK x y = 0) : ciC y x = ciC x y ∧ ciK y x = 0 := by
  cases hb : bothM x y with
  | false => rw [(ci_no hb).2] at h; exact absurd h (by decide)
  | true =>
    have hb2 := (both_swap x y).trans hb
    obtain ⟨hM, hN⟩ := both_iff hb
    refine ⟨?_, (ci_yes hb2).2⟩
    rw [(ci_yes hb).1, (ci_yes hb2).1]
    have := all_swap (T := two x y) hM hN
    show (((two x y).swap.all.length : Nat) : Int) = _
    rw [this]
theorem ci_io (h : ciK x y = 0) : (ioK x y = 0 ∧ 0 < ciC x y) ∨ (¬ ioK x y = 0 ∧ ¬ 0 < ciC x y) := by
  cases hb : bothM x y with
  | false => rw [(ci_no hb).2] at h; exact absurd h (by decide)
  | true =>
    rw [(ci_yes hb).1]
    cases he : (two x y).all with
    | nil => exact .inr ⟨by rw [((io_yes hb).1 he).2]; decide, by simp⟩
    | cons a r => exact .inl ⟨((io_yes hb).2 a r he).2, by simp⟩
theorem ci_small (x y : metric_T) : 0 ≤ ciC x y ∧ ciC x y ≤ 65536 := by
  cases hb : bothM x y with
  | false => rw [(ci_no hb).1]; omega
  | true =>
    obtain ⟨hM, hN⟩ := both_iff hb
    have := (two x y).all_le hM hN
    rw [(ci_yes hb).1]; omega
/-- What an isometry tells. -/
structure IoP (x y : metric_T) (l : List Int) : Prop where
  m : IsM x.1 x.2.1 x.2.2
  n : IsM y.1 y.2.1 y.2.2
  len : l.length = x.1.length
  rng : ∀ i, i < x.1.length → 0 ≤ gi l i ∧ gi l i < prodL y.1
  ord : ∀ i, i < x.1.length → ((ordN y.1 (gi l i) : Nat) : Int) = gi x.1 i
  ga : ∀ k, gsum x.2.1.toNat k x.2.2 = gsum y.2.1.toNat k y.2.2
theorem io_out (h : ioK x y = 0) : IoP x y (ioL x y) := by
  cases hb : bothM x y with
  | false => rw [(io_no hb).2] at h; exact absurd h (by decide)
  | true =>
    obtain ⟨hM, hN⟩ := both_iff hb
    cases he : (two x y).all with
    | nil => rw [((io_yes hb).1 he).2] at h; exact absurd h (by decide)
    | cons a r =>
      rw [((io_yes hb).2 a r he).1]
      have hl : (two x y).vs.length = (two x y).us.length := by
        by_cases hl : (two x y).vs.length = (two x y).us.length
        · exact hl
        · exfalso
          unfold Two.all at he
          rw [if_neg hl] at he
          cases he
      have hi : IsIso (two x y) a := (mem_all hM hN hl).1 (by rw [he]; simp)
      exact ⟨hM, hN, hi.len, fun i hi2 => hi.rng _ (gi_mem (by rw [hi.len]; exact hi2)), fun i hi2 => hi.ord i hi2, fun k => iso_gauss hM hN hl hi k⟩
theorem io_len2 (x y : metric_T) (hx : x.1.length ≤ 8) : (ioL x y).length ≤ 8 ∧ ∀ z ∈ ioL x y, i64ok z := by
  by_cases h : ioK x y = 0
  · have hp := io_out h
    have h16 := hp.n.ok.g.p16
    refine ⟨by rw [hp.len]; exact hx, fun z hz => ?_⟩
    obtain ⟨i, hi, rfl⟩ := List.getElem_of_mem hz
    have := hp.rng i (by rw [← hp.len]; exact hi)
    unfold gi at this
    rw [List.getD_eq_getElem?_getD, List.getElem?_eq_getElem hi] at this
    have this : 0 ≤ (ioL x y)[i] ∧ (ioL x y)[i] < prodL y.1 := this
    exact ⟨by omega, by omega⟩
  · have : ioL x y = [] := by
      cases hb : bothM x y with
      | false => exact (io_no hb).1
      | true =>
        cases he : (two x y).all with
        | nil => exact ((io_yes hb).1 he).1
        | cons a r => exact absurd ((io_yes hb).2 a r he).2 h
    rw [this]; simp
end
section
variable {os vs : List Int} {D : Int}
theorem gauss_w (hM : IsM os D vs) {k : Int} (k0 : -100000 ≤ k) (k1 : k ≤ 100000) (W : World) (A : Option Addr) (n c : Nat) (A' : Option Addr) (n' c' : Nat) (h : Sl W W.heap.size A n c os) (h' : Sl W W.heap.size A' n' c' vs) (hn : n ≤ 1073741824) (hn' : n' ≤ 1073741824) :
    Calls Tryz.prog 14 #[.agg #[.slice A n c, .int .i64 D, .slice A' n' c'], .int .i64 k] W (Re2 W ((gsum D.toNat k vs % 55441 : Nat) : Int) 0) := by
  have hc : codeG os D vs k = 0 := by
    unfold codeG
    rw [if_pos (isM_t hM), if_pos]
    unfold inB
    simp; omega
  have := impl_Gauss_any W A n c os D A' n' c' vs k h h' hn hn'
  unfold gaG at this
  rwa [hc, if_pos rfl] at this
theorem ord_w (hM : IsM os D vs) {x : Int} (x0 : 0 ≤ x) (x1 : x < prodL os) (W : World) (A : Option Addr) (n c : Nat) (A' : Option Addr) (n' c' : Nat) (h : Sl W W.heap.size A n c os) (h' : Sl W W.heap.size A' n' c' vs) (hn : n ≤ 1073741824) (hn' : n' ≤ 1073741824) :
    Calls Tryz.prog 11 #[.agg #[.slice A n c, .int .i64 D, .slice A' n' c'], .int .i64 x] W (Re2 W ((ordN os x : Nat) : Int) 0) := by
  have h16 := hM.ok.g.p16
  have hc : codeE os D vs [x] = 0 := by
    unfold codeE
    rw [if_pos (isM_t hM), if_pos]
    unfold allIn inB
    simp; omega
  have := impl_Ord_any W A n c os D A' n' c' vs x ⟨by omega, by omega⟩ h h' hn hn'
  rwa [hc, if_pos rfl] at this
/-- The text of a metric is short and tells it. -/
theorem txt_small (hM : IsM os D vs) : (metText os D vs).size ≤ 1000 :=
  metText_size (fun x hx => by have := hM.ok.g.m2 x hx; have := hM.ok.g.m16 x hx; exact ⟨by omega, by omega⟩) (fun x hx => by have := hM.ok.rng x hx; have := hM.ok.d2; exact ⟨by omega, by omega⟩) ⟨by have := hM.ok.d1; omega, by have := hM.ok.d2; omega⟩ hM.ok.g.l4 hM.ok.lt
theorem txt_back (hM : IsM os D vs) : pmX (metText os D vs) = (os, D, vs) ∧ pmC (metText os D vs) = 0 := pm_yes (x := (os, D, vs)) ⟨isM_t hM, rfl⟩
end
theorem pm_codes (s : ByteArray) : (pmC s = 0 ∧ IsM (pmX s).1 (pmX s).2.1 (pmX s).2.2 ∧ metText (pmX s).1 (pmX s).2.1 (pmX s).2.2 = s) ∨ ¬ pmC s = 0 := by
  by_cases h : ∃ x, Txt s x
  · obtain ⟨x, hx⟩ := h
    refine .inl ⟨(pm_yes hx).2, ?_, ?_⟩
    · rw [(pm_yes hx).1]; exact isM_iff.1 hx.1
    · rw [(pm_yes hx).1]; exact hx.2
  · refine .inr ?_
    rw [(pm_no h).2]
    decide
end Go.Proofs.YtonehmjoolflfaaGreatDoor
