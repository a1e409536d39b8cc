
/- The product of integer matrices of two rows: unitMatrix, whole walked. -/
import Derived.Test.YtlekbkjkkoefnaaDoorMX1
import Derived.Test.YtlekbkjkkoefnaaDoorCB1
namespace Go.Proofs.YtlekbkjkkoefnaaDoor
open Go Go.RowKit
set_option linter.unusedSimpArgs false
set_option linter.unusedVariables false
set_option maxRecDepth 100000
theorem getD_of2 {α : Type} {xs : List α} {k : Nat} {x d : α} (h : xs[k]? = some x) : xs.getD k d = x := by rw [List.getD_eq_getElem?_getD, h]; rfl
theorem E2.rowAt2 {w : World} {g n c : Nat} {rows : List (List Int)} {fp : Nat → Prop} (h : E2 w (.slice (some ⟨g, 0, none⟩) n c) rows fp) (hn : rows.length = n) {i m : Nat} (hi : i < n) (hm : (rows.getD i []).length = m) (hm0 : 0 < m) :
    ∃ g2 c2, w.cell? ⟨g, i, none⟩ = some (.slice (some ⟨g2, 0, none⟩) m c2) ∧ g < w.heap.size ∧ g2 < w.heap.size ∧ fp g2 ∧ g2 ≠ g ∧ (∀ j, j < m → w.cell? ⟨g2, j, none⟩ = some (.int .i64 (gi (rows.getD i []) j))) ∧
      ∀ j x, j < m → i64ok x → w.frozen? ⟨g2, j, none⟩ = false ∧ E2 (w.setCell ⟨g2, j, none⟩ (.int .i64 x)) (.slice (some ⟨g, 0, none⟩) n c) (rows.set i ((rows.getD i []).set j x)) fp := by
  obtain ⟨r, hr⟩ := get_at (xs := rows) (k := i) (by omega)
  rw [getD_of2 hr] at hm ⊢
  obtain ⟨u, fk, hu, he, hfk, hvk, hup⟩ := OwL.focus kp1 h hr
  obtain ⟨g', e', hc⟩ := hu _ _ _ rfl
  cases e'
  rcases he.own.form with ⟨_, h0⟩ | ⟨g2, cap, e2, _, hg2, _⟩
  · rw [h0] at hm; simp at hm; omega
  · subst e2
    refine ⟨g2, cap, by rw [← hm]; exact hc, World.block_lt_of_cell? _ _ hc, hg2, hfk _ (he.fp_ g2 rfl), fun e => hvk g rfl (by rw [← e]; exact he.fp_ g2 rfl), fun j hj => he.own.cell rfl (by omega), fun j x hj hx => ⟨he.own.frozen rfl j, ?_⟩⟩
    refine hup _ _ ⟨rfl, rfl, rfl, by simp [World.setCell], fun b _ hn => Below.heap_setCell _ _ _ _ (by simp; rintro rfl; exact hn (he.fp_ _ rfl))⟩ ⟨he.own.store rfl j x, ?_, he.fp_, fun b hb => by have := he.bd b hb; simpa [World.setCell] using this⟩
    intro y hy
    rcases List.mem_or_eq_of_mem_set hy with h | rfl
    · exact he.rng y h
    · exact hx
/-- A product under construction, by the products of numbers. -/
def wsx (x1 x2 x3 x4 x5 x6 x7 x8 : Int) : Nat → List (List Int)
  | 0 => mt2 0 0 0 0
  | 1 => mt2 x1 0 0 0
  | 2 => mt2 x1 x2 0 0
  | 3 => mt2 (x1 + x3) x2 0 0
  | 4 => mt2 (x1 + x3) (x2 + x4) 0 0
  | 5 => mt2 (x1 + x3) (x2 + x4) x5 0
  | 6 => mt2 (x1 + x3) (x2 + x4) x5 x6
  | 7 => mt2 (x1 + x3) (x2 + x4) (x5 + x7) x6
  | _ => mt2 (x1 + x3) (x2 + x4) (x5 + x7) (x6 + x8)
def wsm (a b c d p q r s : Int) : Nat → List (List Int) := wsx (a * p) (a * q) (b * r) (b * s) (c * p) (c * q) (d * r) (d * s)
theorem two_cases {i : Nat} (h : i < 2) : i = 0 ∨ i = 1 := by omega
theorem wsm_len (a b c d p q r s : Int) (t : Nat) : (wsm a b c d p q r s t).length = 2 := by
  unfold wsm wsx; split <;> rfl
theorem wsm_row (a b c d p q r s : Int) (t : Nat) {i : Nat} (hi : i < 2) : ((wsm a b c d p q r s t).getD i []).length = 2 := by
  unfold wsm wsx
  rcases two_cases hi with rfl | rfl <;> split <;> rfl
theorem wsm_step (a b c d p q r s : Int) {i k j : Nat} (hi : i < 2) (hk : k < 2) (hj : j < 2) :
    (wsm a b c d p q r s (4 * i + 2 * k + j)).set i (((wsm a b c d p q r s (4 * i + 2 * k + j)).getD i []).set j (en (wsm a b c d p q r s (4 * i + 2 * k + j)) i j + en (mt2 a b c d) i k * en (mt2 p q r s) k j)) = wsm a b c d p q r s (4 * i + 2 * k + (j + 1)) := by
  rcases two_cases hi with rfl | rfl <;> rcases two_cases hk with rfl | rfl <;> rcases two_cases hj with rfl | rfl <;> simp [wsm, wsx, mt2, en, gi]
theorem pb {x y M : Int} (hM : 0 ≤ M) (h0 : -M ≤ x) (h1 : x ≤ M) (y0 : -1 ≤ y) (y1 : y ≤ 1) : -M ≤ x * y ∧ x * y ≤ M := by
  rcases (show y = -1 ∨ y = 0 ∨ y = 1 by omega) with rfl | rfl | rfl <;> simp <;> omega
structure Bd (M a b c d p q r s : Int) : Prop where
  a : -M ≤ a ∧ a ≤ M
  b : -M ≤ b ∧ b ≤ M
  c : -M ≤ c ∧ c ≤ M
  d : -M ≤ d ∧ d ≤ M
  p : -1 ≤ p ∧ p ≤ 1
  q : -1 ≤ q ∧ q ≤ 1
  r : -1 ≤ r ∧ r ≤ 1
  s : -1 ≤ s ∧ s ≤ 1
theorem wsm_bd {a b c d p q r s : Int} (h : Bd 1000000000000 a b c d p q r s) (t : Nat) {i j : Nat} (hi : i < 2) (hj : j < 2) : -2000000000000 ≤ en (wsm a b c d p q r s t) i j ∧ en (wsm a b c d p q r s t) i j ≤ 2000000000000 := by
  have h1 := pb (by omega) h.a.1 h.a.2 h.p.1 h.p.2
  have h2 := pb (by omega) h.a.1 h.a.2 h.q.1 h.q.2
  have h3 := pb (by omega) h.b.1 h.b.2 h.r.1 h.r.2
  have h4 := pb (by omega) h.b.1 h.b.2 h.s.1 h.s.2
  have h5 := pb (by omega) h.c.1 h.c.2 h.p.1 h.p.2
  have h6 := pb (by omega) h.c.1 h.c.2 h.q.1 h.q.2
  have h7 := pb (by omega) h.d.1 h.d.2 h.r.1 h.r.2
  have h8 := pb (by omega) h.d.1 h.d.2 h.s.1 h.s.2
  unfold wsm
  generalize a * p = x1 at *
  generalize a * q = x2 at *
  generalize b * r = x3 at *
  generalize b * s = x4 at *
  generalize c * p = x5 at *
  generalize c * q = x6 at *
  generalize d * r = x7 at *
  generalize d * s = x8 at *
  unfold wsx
  rcases two_cases hi with rfl | rfl <;> rcases two_cases hj with rfl | rfl <;> split <;> simp [mt2, en, gi] <;> omega
theorem en_row {m : List (List Int)} {i j : Nat} : en m i j = gi (m.getD i []) j := rfl
theorem mt2_row (a b c d : Int) {i : Nat} (hi : i < 2) : ∃ r, (mt2 a b c d)[i]? = some r ∧ r.length = 2 ∧ (mt2 a b c d).getD i [] = r := by
  rcases two_cases hi with rfl | rfl
  · exact ⟨_, rfl, rfl, rfl⟩
  · exact ⟨_, rfl, rfl, rfl⟩
set_option maxHeartbeats 8000000 in
theorem whole_any (w : World) (A : Option Addr) (ca : Nat) (B : Option Addr) (cb : Nat) (a b c d p q r s : Int) (hA : Sl2 w w.heap.size A 2 ca (mt2 a b c d)) (hB : Sl2 w w.heap.size B 2 cb (mt2 p q r s)) (hb : Bd 1000000000000 a b c d p q r s) :
    Calls Tryd.prog 57 #[.slice A 2 ca, .slice B 2 cb] w (MkE E2 w (wsm a b c d p q r s 8)) := by
  obtain ⟨ab, ao, rfl, hab⟩ := RdL.addr hA (by omega)
  obtain ⟨bb, bo, rfl, hbb⟩ := RdL.addr hB (by omega)
  have HAr := hide (fun i (hi : i < 2) => mt2_row a b c d hi)
  have HBr := hide (fun i (hi : i < 2) => mt2_row p q r s hi)
  have HLen := hide (wsm_len a b c d p q r s)
  have HRow := hide (fun t i (hi : i < 2) => wsm_row a b c d p q r s t hi)
  have HStep := hide (fun i k j (hi : i < 2) (hk : k < 2) (hj : j < 2) => wsm_step a b c d p q r s hi hk hj)
  have HAb := hide (show ∀ i k, i < 2 → k < 2 → -1000000000000 ≤ en (mt2 a b c d) i k ∧ en (mt2 a b c d) i k ≤ 1000000000000 from fun i k hi hk => by
    rcases two_cases hi with rfl | rfl <;> rcases two_cases hk with rfl | rfl
    · exact hb.a
    · exact hb.b
    · exact hb.c
    · exact hb.d)
  have HBb := hide (show ∀ i k, i < 2 → k < 2 → -1 ≤ en (mt2 p q r s) i k ∧ en (mt2 p q r s) i k ≤ 1 from fun i k hi hk => by
    rcases two_cases hi with rfl | rfl <;> rcases two_cases hk with rfl | rfl
    · exact hb.p
    · exact hb.q
    · exact hb.r
    · exact hb.s)
  have HBd := hide (fun t i j (hi : i < 2) (hj : j < 2) => wsm_bd hb t hi hj)
  obtain ⟨rb, hrb, hlb, hgb⟩ := HBr.out 0 (by omega)
  obtain ⟨B0, n0, c0, cB0, sB0⟩ := hB.row hrb
  have l0 := sB0.len
  rw [hlb] at l0
  subst l0
  rw [Nat.add_zero] at cB0
  clear hrb hlb hgb sB0
  go_enter Tryd.func57, Tryd.ntmps57
  go_wp2_with fail
  refine (zeros_any w 2 2 (by omega) (by omega)).mono ?_
  rintro e w1 ⟨v, rfl, hG, hb1⟩
  have hE0 := hG.toL
  obtain ⟨g, oc, hv, hgf, hgl⟩ : ∃ g oc, v = .slice (some ⟨g, 0, none⟩) 2 oc ∧ w.heap.size ≤ g ∧ g < w1.heap.size := by
    obtain ⟨us, F, hU⟩ := OwL.open_ hE0
    rcases hU.row.form with ⟨_, hz⟩ | ⟨g, c, hv, _, hg, _, _⟩
    · have := hU.len; rw [hz] at this; simp at this
    · refine ⟨g, c, ?_, (hU.fp_ g (by rw [hv]; rfl)).1, hg⟩
      rw [hv, hU.len]; rfl
  subst hv
  have hE1 : E2 w1 (.slice (some ⟨g, 0, none⟩) 2 oc) (wsm a b c d p q r s 0) (fun x => w.heap.size ≤ x ∧ x < w1.heap.size) := hE0
  obtain ⟨S, hS⟩ : ∃ S, w1.heap.size = S := ⟨_, rfl⟩
  rw [hS] at hE1
  clear hE0 hG hgl
  have hsw : w.heap.size ≤ S := by rw [← hS]; exact hb1.size
  have hsl2 : ∀ wd, Below w.heap.size w wd → Sl2 wd w.heap.size (some ⟨ab, ao, none⟩) 2 ca (mt2 a b c d) := fun wd h => hA.below h
  have hsb2 : ∀ wd, Below w.heap.size w wd → Sl2 wd w.heap.size (some ⟨bb, bo, none⟩) 2 cb (mt2 p q r s) := fun wd h => hB.below h
  go_wp2_with fail
  go_loopw [21] (fun ii wr => ∃ i : Nat, i ≤ 2 ∧ ii = .int .i64 i ∧ E2 wr (.slice (some ⟨g, 0, none⟩) 2 oc) (wsm a b c d p q r s (4 * i)) (fun x => w.heap.size ≤ x ∧ x < S) ∧ Below w.heap.size w wr) (fun ii _ => 2 - (intOf ii).toNat)
  case atStart => exact ⟨0, by omega, rfl, hE1, hb1⟩
  case round =>
    clear hE1 hb1 hS
    obtain ⟨i, hi, rfl, hE, hBe⟩ := hrel
    by_cases hli : i < 2
    · obtain ⟨ra, hra, hla, hga⟩ := HAr.out i hli
      obtain ⟨A1, n1, c1, cA, sA⟩ := hA.row hra
      have l1 := sA.len
      rw [hla] at l1
      subst l1
      have HGA := hide hga
      have ca1 := (hBe.cell (p := ⟨ab, ao + i, none⟩) hab).trans cA
      clear hra hla hga
      go_wp2_with fail
      clear ca1
      go_loopw [28] (fun kk wr => ∃ k : Nat, k ≤ 2 ∧ kk = .int .i64 k ∧ E2 wr (.slice (some ⟨g, 0, none⟩) 2 oc) (wsm a b c d p q r s (4 * i + 2 * k)) (fun x => w.heap.size ≤ x ∧ x < S) ∧ Below w.heap.size w wr) (fun kk _ => 2 - (intOf kk).toNat)
      case atStart => exact ⟨0, by omega, rfl, hE, hBe⟩
      case round =>
        clear hE hBe cA
        obtain ⟨k, hk, rfl, hE, hBe⟩ := hrel
        by_cases hlk : k < 2
        · obtain ⟨rb, hrb, hlb, hgb⟩ := HBr.out k hlk
          obtain ⟨B1, n2, c2, cB, sB⟩ := hB.row hrb
          have l2 := sB.len
          rw [hlb] at l2
          subst l2
          have HGB := hide hgb
          obtain ⟨xb, xo, rfl, hxb, hxc⟩ := sA.at_ (by omega)
          have cx := (hBe.cell (p := ⟨xb, xo + k, none⟩) hxb).trans (hxc k hlk)
          have cb1 := (hBe.cell (p := ⟨bb, bo + k, none⟩) hbb).trans cB
          have HX := hide (show gi ra k = en (mt2 a b c d) i k by rw [en_row, HGA.out])
          obtain ⟨x, ex⟩ : ∃ x, gi ra k = x := ⟨_, rfl⟩
          rw [ex] at cx HX
          clear hrb hlb hgb hxc ex cB
          go_wp2_with fail
          clear cx cb1
          go_loopw [38] (fun jj wr => ∃ j : Nat, j ≤ 2 ∧ jj = .int .i64 j ∧ E2 wr (.slice (some ⟨g, 0, none⟩) 2 oc) (wsm a b c d p q r s (4 * i + 2 * k + j)) (fun x => w.heap.size ≤ x ∧ x < S) ∧ Below w.heap.size w wr) (fun jj _ => 2 - (intOf jj).toNat)
          case atStart => exact ⟨0, by omega, rfl, hE, hBe⟩
          case round =>
            clear hE hBe
            obtain ⟨j, hj, rfl, hE, hBe⟩ := hrel
            by_cases hlj : j < 2
            · obtain ⟨yb, yo, rfl, hyb, hyc⟩ := sB.at_ (by omega)
              have cy := (hBe.cell (p := ⟨yb, yo + j, none⟩) hyb).trans (hyc j hlj)
              have HY := hide (show gi rb j = en (mt2 p q r s) k j by rw [en_row, HGB.out])
              obtain ⟨y, ey⟩ : ∃ y, gi rb j = y := ⟨_, rfl⟩
              rw [ey] at cy HY
              obtain ⟨g2, oc2, co, hgl, hg2l, hg2f, hne, hcells, hput⟩ := E2.rowAt2 hE (HLen.out _) hli (HRow.out _ i hli) (by omega)
              have c5 := hcells j hlj
              have hbo := HBd.out (4 * i + 2 * k + j) i j hli hlj
              have hst := HStep.out i k j hli hlk hlj
              rw [← HX.out, ← HY.out] at hst
              have hxr := HAb.out i k hli hlk
              have hyr := HBb.out k j hlk hlj
              rw [← HX.out] at hxr
              rw [← HY.out] at hyr
              have hxy := pb (by omega) hxr.1 hxr.2 hyr.1 hyr.2
              rw [en_row] at hbo hst
              obtain ⟨o, eo⟩ : ∃ o, gi ((wsm a b c d p q r s (4 * i + 2 * k + j)).getD i []) j = o := ⟨_, rfl⟩
              rw [eo] at c5 hbo hst
              obtain ⟨z, ez⟩ : ∃ z, x * y = z := ⟨_, rfl⟩
              rw [ez] at hxy hst
              have hz1 : IntKind.i64.wrap (x * y) = z := by rw [ez]; exact wr64 _ ⟨by omega, by omega⟩
              have hz2 : IntKind.i64.wrap (o + z) = o + z := wr64 _ ⟨by omega, by omega⟩
              obtain ⟨fz, hE2⟩ := hput j (o + z) hlj ⟨by omega, by omega⟩
              rw [hst] at hE2
              have HE2 := hide hE2
              clear hyc ey hcells hput hst hxr hyr hxy eo ez hbo hE hE2
              go_wp2_with fail
              go_roundw
              case rel => exact ⟨j + 1, by omega, by go_num, HE2.out, hBe.setCell hg2f.1 _⟩
              case measure => simp [intOf] <;> omega
            · obtain rfl : j = 2 := by omega
              go_wp2_with fail
              go_roundw
              case rel => exact ⟨k + 1, by omega, by go_num, hE, hBe⟩
              case measure => simp [intOf] <;> omega
        · obtain rfl : k = 2 := by omega
          go_wp2_with fail
          go_roundw
          case rel => exact ⟨i + 1, by omega, by go_num, hE, hBe⟩
          case measure => simp [intOf] <;> omega
    · obtain rfl : i = 2 := by omega
      have hSw : S ≤ wr.heap.size := by
        by_cases hq : S ≤ w.heap.size
        · exact Nat.le_trans hq hBe.size
        · have := OwL.bd hE (S - 1) ⟨by omega, by omega⟩
          omega
      go_wp2_with fail
      go_ret
      exact ⟨_, rfl, hE.mono (fun b hb => ⟨hb.1, by omega⟩) (fun b hb => hb.2), hBe⟩
def umx : Nat → List (List Int)
  | 0 => mt2 0 0 0 0
  | 1 => mt2 1 0 0 0
  | _ => mt2 1 0 0 1
theorem umx_len (t : Nat) : (umx t).length = 2 := by unfold umx; split <;> rfl
theorem umx_row (t : Nat) {i : Nat} (hi : i < 2) : ((umx t).getD i []).length = 2 := by
  unfold umx
  rcases two_cases hi with rfl | rfl <;> split <;> rfl
theorem umx_step {i : Nat} (hi : i < 2) : (umx i).set i (((umx i).getD i []).set i 1) = umx (i + 1) := by
  rcases two_cases hi with rfl | rfl <;> rfl
set_option maxHeartbeats 2000000 in
theorem unitMatrix_any (w : World) : Calls Tryd.prog 56 #[.int .i64 2, .int .i64 1] w (MkE E2 w (mt2 1 0 0 1)) := by
  have HLen := hide umx_len
  have HRow := hide (fun t i (hi : i < 2) => umx_row t hi)
  have HStep := hide (fun i (hi : i < 2) => umx_step hi)
  go_enter Tryd.func56, Tryd.ntmps56
  go_wp2_with fail
  refine (zeros_any w 2 2 (by omega) (by omega)).mono ?_
  rintro e w1 ⟨v, rfl, hG, hb1⟩
  have hE0 := hG.toL
  obtain ⟨g, oc, hv, hgf, hgl⟩ : ∃ g oc, v = .slice (some ⟨g, 0, none⟩) 2 oc ∧ w.heap.size ≤ g ∧ g < w1.heap.size := by
    obtain ⟨us, F, hU⟩ := OwL.open_ hE0
    rcases hU.row.form with ⟨_, hz⟩ | ⟨g, c, hv, _, hg, _, _⟩
    · have := hU.len; rw [hz] at this; simp at this
    · refine ⟨g, c, ?_, (hU.fp_ g (by rw [hv]; rfl)).1, hg⟩
      rw [hv, hU.len]; rfl
  subst hv
  have hE1 : E2 w1 (.slice (some ⟨g, 0, none⟩) 2 oc) (umx 0) (fun x => w.heap.size ≤ x ∧ x < w1.heap.size) := hE0
  obtain ⟨S, hS⟩ : ∃ S, w1.heap.size = S := ⟨_, rfl⟩
  rw [hS] at hE1
  clear hE0 hG hgl
  go_wp2_with fail
  go_loopw [11] (fun ii wr => ∃ i : Nat, i ≤ 2 ∧ ii = .int .i64 i ∧ E2 wr (.slice (some ⟨g, 0, none⟩) 2 oc) (umx i) (fun x => w.heap.size ≤ x ∧ x < S) ∧ Below w.heap.size w wr) (fun ii _ => 2 - (intOf ii).toNat)
  case atStart => exact ⟨0, by omega, rfl, hE1, hb1⟩
  case round =>
    clear hE1 hb1 hS
    obtain ⟨i, hi, rfl, hE, hBe⟩ := hrel
    by_cases hli : i < 2
    · obtain ⟨g2, oc2, co, hgl, hg2l, hg2f, hne, hcells, hput⟩ := E2.rowAt2 hE (HLen.out _) hli (HRow.out _ i hli) (by omega)
      have c5 := hcells i hli
      obtain ⟨fz, hE2⟩ := hput i 1 hli ⟨by omega, by omega⟩
      rw [HStep.out i hli] at hE2
      have HE2 := hide hE2
      clear hcells hput hE hE2
      go_wp2_with fail
      go_roundw
      case rel => exact ⟨i + 1, by omega, by go_num, HE2.out, hBe.setCell hg2f.1 _⟩
      case measure => simp [intOf] <;> omega
    · obtain rfl : i = 2 := by omega
      have hSw : S ≤ wr.heap.size := by
        by_cases hq : S ≤ w.heap.size
        · exact Nat.le_trans hq hBe.size
        · have := OwL.bd hE (S - 1) ⟨by omega, by omega⟩
          omega
      go_wp2_with fail
      go_ret
      exact ⟨_, rfl, hE.mono (fun b hb => ⟨hb.1, by omega⟩) (fun b hb => hb.2), hBe⟩
end Go.Proofs.YtlekbkjkkoefnaaDoor
