
/- The walk of l01Damage: a text is changed by one letter. -/
import Derived.Test.YtonehmjoolflfaaGreatDoorDAa
import Derived.Test.YtonehmjoolflfaaGreatDoorOra
import Derived.Laws.IdiomStrings
import Derived.WalkLawsBesides
import Derived.Deep.DeepCutAuto
namespace Go.Proofs.YtonehmjoolflfaaGreatDoor
open Go Go.RowKit
set_option linter.unusedSimpArgs false
set_option linter.unusedVariables false
set_option maxRecDepth 100000
theorem grown_bel {w w1 w2 : World} {row : Option Nat} (h : w.grownBy w1 row) (k : Below w.heap.size w1 w2) : w.grownBy w2 row :=
  ⟨k.os.trans h.os, k.tape.trans h.tape, k.output.trans h.output, Nat.le_trans h.size k.size, fun b hb hne => (k.block b hb).trans (h.block b hb hne)⟩
theorem SrcX.mov {w0 w w' : World} {B S : Nat} {A : Option Addr} {n c a : Nat} {h : Int} (hs : SrcX w0 B S A n c a h w) (hb : Below w.heap.size w w') : SrcX w0 B S A n c a h w' :=
  ⟨hs.h0, hs.h1, hs.ha, hs.blk.all hb, hs.below.trans (hb.mono (by have := hs.hS; have := hs.lt; omega)), hs.hS⟩
/-- It returned a text one byte longer or shorter at most, by one draw (of no text) or by three. -/
def DmS (w0 : World) (B S : Nat) (A : Option Addr) (n c a : Nat) (h : Int) (w : World) (T : Nat) (e : Ending) (w' : World) : Prop :=
  ∃ (u : ByteArray) (a' : Nat), e = .returned (.string u) ∧ u.size ≤ T + 1 ∧ T ≤ u.size + 1 ∧ a ≤ a' ∧ (a < n → a < a') ∧ SrcX w0 B S A n c a' (if T = 0 then tick h else tick (tick (tick h))) w' ∧ w.grownBy w' (some S)
set_option maxHeartbeats 4000000 in
theorem l01Damage_x (w0 w : World) (B S : Nat) (A : Option Addr) (n c a : Nat) (h : Int) (bs : List Int) (hb : SlB w0 B A n c bs) (hn : n ≤ 1073741824) (hs : SrcX w0 B S A n c a h w) (hB : B ≤ w.heap.size) (t : ByteArray) (ht : t.size ≤ 1073741824) :
    Calls Tryz.prog 43 #[.pointer (some ⟨S, 0, none⟩), .string t] w (DmS w0 B S A n c a h w t.size) := by
  go_enter Tryz.func43, Tryz.ntmps43
  go_wp2_with fail
  refine (l01Next_x w0 _ B S A n c a h bs hb hn (hs.alloc _) 20 ⟨by omega, by omega⟩ (by omega)).mono ?_
  rintro e w1 ⟨x, rfl, ⟨⟨x0, x1, -⟩, -⟩, s1, g1⟩
  have hSw := hs.lt
  have key : ∀ (cs : Array Value) (t : TypeId), (w.alloc (.cells cs t)).grownBy w1 (some S) → Blk w1 w.heap.size t cs ∧ w.grownBy w1 (some S) := fun cs t g => ⟨(Blk.new _ _ _).grown g (by simp; omega), (World.grownBy_alloc _ _ _).trans g⟩
  obtain ⟨bS, gw⟩ := key _ _ g1
  clear key g1
  obtain ⟨k, rfl⟩ := Int.eq_ofNat_of_zero_le x0
  have hsg : ∃ sg : ByteArray, sg.size = 1 ∧ w1.cell? ⟨w.heap.size, k, none⟩ = some (.string sg) := by
    have hc : k = 0 ∨ k = 1 ∨ k = 2 ∨ k = 3 ∨ k = 4 ∨ k = 5 ∨ k = 6 ∨ k = 7 ∨ k = 8 ∨ k = 9 ∨ k = 10 ∨ k = 11 ∨ k = 12 ∨ k = 13 ∨ k = 14 ∨ k = 15 ∨ k = 16 ∨ k = 17 ∨ k = 18 ∨ k = 19 := by omega
    rcases hc with rfl | rfl | rfl | rfl | rfl | rfl | rfl | rfl | rfl | rfl | rfl | rfl | rfl | rfl | rfl | rfl | rfl | rfl | rfl | rfl
    all_goals
      refine ⟨_, ?_, bS.cell _⟩
      rfl
  obtain ⟨sg, hs1, hcell⟩ := hsg
  clear bS
  have z1 : w.heap.size < w1.heap.size := World.block_lt_of_cell? _ _ hcell
  obtain ⟨g, hg⟩ : ∃ g, w.heap.size = g := ⟨_, rfl⟩
  rw [hg] at hcell
  have ha1 : a ≤ (if a < n then a + 1 else a) ∧ (a < n → a < (if a < n then a + 1 else a)) := by split <;> omega
  obtain ⟨a1, ea1⟩ : ∃ a1, (if a < n then a + 1 else a) = a1 := ⟨_, rfl⟩
  rw [ea1] at s1 ha1
  clear ea1
  obtain ⟨T, hT⟩ : ∃ T, t.size = T := ⟨_, rfl⟩
  have HT := hide hT
  rw [hT] at ht ⊢
  by_cases ht0 : T = 0
  · subst ht0
    have hTi : (t.size : Int) = 0 := by omega
    go_wp2_with fail
    go_ret
    exact ⟨sg, a1, rfl, by omega, by omega, ha1.1, ha1.2, by rw [if_pos hT]; exact s1, gw⟩
  · have hTi : ¬ (t.size : Int) = 0 := by omega
    clear hT
    have hT := HT.out
    go_wp2_with fail
    refine (l01Next_x w0 _ B S A n c a1 (tick h) bs hb hn s1 T ⟨by omega, by omega⟩ (by omega)).mono ?_
    rintro e w2 ⟨y, rfl, ⟨⟨y0, y1, -⟩, -⟩, s2, g2⟩
    obtain ⟨j, rfl⟩ := Int.eq_ofNat_of_zero_le y0
    have ha2 : a1 ≤ (if a1 < n then a1 + 1 else a1) := by split <;> omega
    obtain ⟨a2, ea2⟩ : ∃ a2, (if a1 < n then a1 + 1 else a1) = a2 := ⟨_, rfl⟩
    rw [ea2] at s2 ha2
    clear ea2
    replace gw := gw.trans g2
    clear g2 s1 hcell z1
    go_wp2_with fail
    refine (l01Next_x w0 _ B S A n c a2 (tick (tick h)) bs hb hn s2 3 ⟨by omega, by omega⟩ (by omega)).mono ?_
    rintro e w3 ⟨v, rfl, ⟨⟨v0, v1, -⟩, -⟩, s3, g3⟩
    have ha3 : a2 ≤ (if a2 < n then a2 + 1 else a2) := by split <;> omega
    obtain ⟨a3, ea3⟩ : ∃ a3, (if a2 < n then a2 + 1 else a2) = a3 := ⟨_, rfl⟩
    rw [ea3] at s3 ha3
    clear ea3
    replace gw := gw.trans g3
    clear g3 s2
    have hfin : ∀ wd, Below w3.heap.size w3 wd → ∀ u : ByteArray, u.size ≤ T + 1 → T ≤ u.size + 1 → DmS w0 B S A n c a h w T (.returned (.string u)) wd := fun wd hbd u h1 h2 => ⟨u, a3, rfl, h1, h2, by omega, fun hl => by have := ha1.2 hl; omega, by rw [if_neg ht0]; exact s3.mov hbd, grown_bel gw (hbd.mono gw.size)⟩
    have Hfin := hide hfin
    clear hfin
    have hjT : j < T := by omega
    have hjT1 : (j : Int) + 1 ≤ T := by omega
    have w64 : IntKind.i64.wrap ((j : Int) + 1) = (j : Int) + 1 := wr64 _ ⟨by omega, by omega⟩
    by_cases c0 : v = 0
    · subst c0
      go_upto_region 8 with fail
      refine OrP.wp_region_be [0, 1, 2, 3, 4, 5, 6, 7, 8, 9, 10] 0 w3.heap.size w3 (by kernel_rfl) (by kernel_rfl) (by kernel_rfl) (fun _ _ _ _ _ h => h) (Below.refl _ _) (fun wd hBe => ?_)
      apply OrP.ord_pt rfl (by rfl) (by rfl) (by rfl) (by rfl)
      intro wx hSw
      go_simp
      (try with_reducible rfl)
      (try simp only [Act.put, List.setIfInBounds_toArray, List.set_cons_zero, List.set_cons_succ])
      apply OrP.ord_pt rfl (by rfl) (by rfl) (by rfl) (by rfl)
      intro wx hSw
      go_simp
      (try with_reducible rfl)
      (try simp only [Act.put, List.setIfInBounds_toArray, List.set_cons_zero, List.set_cons_succ])
      refine OrP.ord_pt (v := .string (t.extract 0 j)) rfl (by rfl) (by rfl) (by rfl) (by rfl) (fun wx _ => ?_) ?_
      · go_simp
        (first | (intro hc; omega) | (rw [if_neg (by omega)]) | omega)
      (try simp only [Act.put, List.setIfInBounds_toArray, List.set_cons_zero, List.set_cons_succ])
      apply OrP.ord_pt rfl (by rfl) (by rfl) (by rfl) (by rfl)
      intro wx hSw
      go_simp
      (try with_reducible rfl)
      (try simp only [Act.put, List.setIfInBounds_toArray, List.set_cons_zero, List.set_cons_succ])
      refine OrP.ord_pt (v := .string (t.extract 0 j ++ sg)) rfl (by rfl) (by rfl) (by rfl) (by rfl) (fun wx _ => ?_) ?_
      · go_simp
        (first | (intro hc; omega) | (rw [if_neg (by omega)]) | omega)
      (try simp only [Act.put, List.setIfInBounds_toArray, List.set_cons_zero, List.set_cons_succ])
      apply OrP.ord_pt rfl (by rfl) (by rfl) (by rfl) (by rfl)
      intro wx hSw
      go_simp
      (try with_reducible rfl)
      (try simp only [Act.put, List.setIfInBounds_toArray, List.set_cons_zero, List.set_cons_succ])
      apply OrP.ord_pt rfl (by rfl) (by rfl) (by rfl) (by rfl)
      intro wx hSw
      go_simp
      (try with_reducible rfl)
      (try simp only [Act.put, List.setIfInBounds_toArray, List.set_cons_zero, List.set_cons_succ])
      apply OrP.ord_pt rfl (by rfl) (by rfl) (by rfl) (by rfl)
      intro wx hSw
      go_simp
      (try with_reducible rfl)
      (try simp only [Act.put, List.setIfInBounds_toArray, List.set_cons_zero, List.set_cons_succ])
      refine OrP.ord_pt (v := .string (t.extract (j + 1) t.size)) rfl (by rfl) (by rfl) (by rfl) (by rfl) (fun wx _ => ?_) ?_
      · go_simp
        (first | (intro hc; omega) | (rw [if_neg (by omega)]) | omega)
      (try simp only [Act.put, List.setIfInBounds_toArray, List.set_cons_zero, List.set_cons_succ])
      refine OrP.ord_pt (v := .string (t.extract 0 j ++ sg ++ t.extract (j + 1) t.size)) rfl (by rfl) (by rfl) (by rfl) (by rfl) (fun wx _ => ?_) ?_
      · go_simp
        (first | (intro hc; omega) | (rw [if_neg (by omega)]) | omega)
      (try simp only [Act.put, List.setIfInBounds_toArray, List.set_cons_zero, List.set_cons_succ])
      apply OrP.ord_pt rfl (by rfl) (by rfl) (by rfl) (by rfl)
      intro wx hSw
      go_simp
      (try with_reducible rfl)
      (try simp only [Act.put, List.setIfInBounds_toArray, List.set_cons_zero, List.set_cons_succ])
      refine OrP.ord_nil ?_
      go_wp2_with fail
      go_ret
      have hu : (t.extract 0 j ++ sg ++ t.extract (j + 1) t.size).size ≤ T + 1 ∧ T ≤ (t.extract 0 j ++ sg ++ t.extract (j + 1) t.size).size + 1 := by simp only [ByteArray.size_append, ByteArray.size_extract]; omega
      have := Hfin.out _ hBe (t.extract 0 j ++ sg ++ t.extract (j + 1) t.size) hu.1 hu.2
      simpa [hT] using this
    by_cases c1 : v = 1
    · subst c1
      go_upto_region 10 with fail
      refine OrP.wp_region_be [0, 1, 2, 3, 4, 5, 6, 7, 8] 0 w3.heap.size w3 (by kernel_rfl) (by kernel_rfl) (by kernel_rfl) (fun _ _ _ _ _ h => h) (Below.refl _ _) (fun wd hBe => ?_)
      apply OrP.ord_pt rfl (by rfl) (by rfl) (by rfl) (by rfl)
      intro wx hSw
      go_simp
      (try with_reducible rfl)
      (try simp only [Act.put, List.setIfInBounds_toArray, List.set_cons_zero, List.set_cons_succ])
      apply OrP.ord_pt rfl (by rfl) (by rfl) (by rfl) (by rfl)
      intro wx hSw
      go_simp
      (try with_reducible rfl)
      (try simp only [Act.put, List.setIfInBounds_toArray, List.set_cons_zero, List.set_cons_succ])
      refine OrP.ord_pt (v := .string (t.extract 0 j)) rfl (by rfl) (by rfl) (by rfl) (by rfl) (fun wx _ => ?_) ?_
      · go_simp
        (first | (intro hc; omega) | (rw [if_neg (by omega)]) | omega)
      (try simp only [Act.put, List.setIfInBounds_toArray, List.set_cons_zero, List.set_cons_succ])
      apply OrP.ord_pt rfl (by rfl) (by rfl) (by rfl) (by rfl)
      intro wx hSw
      go_simp
      (try with_reducible rfl)
      (try simp only [Act.put, List.setIfInBounds_toArray, List.set_cons_zero, List.set_cons_succ])
      apply OrP.ord_pt rfl (by rfl) (by rfl) (by rfl) (by rfl)
      intro wx hSw
      go_simp
      (try with_reducible rfl)
      (try simp only [Act.put, List.setIfInBounds_toArray, List.set_cons_zero, List.set_cons_succ])
      apply OrP.ord_pt rfl (by rfl) (by rfl) (by rfl) (by rfl)
      intro wx hSw
      go_simp
      (try with_reducible rfl)
      (try simp only [Act.put, List.setIfInBounds_toArray, List.set_cons_zero, List.set_cons_succ])
      refine OrP.ord_pt (v := .string (t.extract (j + 1) t.size)) rfl (by rfl) (by rfl) (by rfl) (by rfl) (fun wx _ => ?_) ?_
      · go_simp
        (first | (intro hc; omega) | (rw [if_neg (by omega)]) | omega)
      (try simp only [Act.put, List.setIfInBounds_toArray, List.set_cons_zero, List.set_cons_succ])
      refine OrP.ord_pt (v := .string (t.extract 0 j ++ t.extract (j + 1) t.size)) rfl (by rfl) (by rfl) (by rfl) (by rfl) (fun wx _ => ?_) ?_
      · go_simp
        (first | (intro hc; omega) | (rw [if_neg (by omega)]) | omega)
      (try simp only [Act.put, List.setIfInBounds_toArray, List.set_cons_zero, List.set_cons_succ])
      apply OrP.ord_pt rfl (by rfl) (by rfl) (by rfl) (by rfl)
      intro wx hSw
      go_simp
      (try with_reducible rfl)
      (try simp only [Act.put, List.setIfInBounds_toArray, List.set_cons_zero, List.set_cons_succ])
      refine OrP.ord_nil ?_
      go_wp2_with fail
      go_ret
      have hu : (t.extract 0 j ++ t.extract (j + 1) t.size).size ≤ T + 1 ∧ T ≤ (t.extract 0 j ++ t.extract (j + 1) t.size).size + 1 := by simp only [ByteArray.size_append, ByteArray.size_extract]; omega
      have := Hfin.out _ hBe (t.extract 0 j ++ t.extract (j + 1) t.size) hu.1 hu.2
      simpa [hT] using this
    · go_upto_region 11 with fail
      refine OrP.wp_region_be [0, 1, 2, 3, 4, 5, 6, 7, 8, 9] 0 w3.heap.size w3 (by kernel_rfl) (by kernel_rfl) (by kernel_rfl) (fun _ _ _ _ _ h => h) (Below.refl _ _) (fun wd hBe => ?_)
      apply OrP.ord_pt rfl (by rfl) (by rfl) (by rfl) (by rfl)
      intro wx hSw
      go_simp
      (try with_reducible rfl)
      (try simp only [Act.put, List.setIfInBounds_toArray, List.set_cons_zero, List.set_cons_succ])
      apply OrP.ord_pt rfl (by rfl) (by rfl) (by rfl) (by rfl)
      intro wx hSw
      go_simp
      (try with_reducible rfl)
      (try simp only [Act.put, List.setIfInBounds_toArray, List.set_cons_zero, List.set_cons_succ])
      refine OrP.ord_pt (v := .string (t.extract 0 j)) rfl (by rfl) (by rfl) (by rfl) (by rfl) (fun wx _ => ?_) ?_
      · go_simp
        (first | (intro hc; omega) | (rw [if_neg (by omega)]) | omega)
      (try simp only [Act.put, List.setIfInBounds_toArray, List.set_cons_zero, List.set_cons_succ])
      apply OrP.ord_pt rfl (by rfl) (by rfl) (by rfl) (by rfl)
      intro wx hSw
      go_simp
      (try with_reducible rfl)
      (try simp only [Act.put, List.setIfInBounds_toArray, List.set_cons_zero, List.set_cons_succ])
      refine OrP.ord_pt (v := .string (t.extract 0 j ++ sg)) rfl (by rfl) (by rfl) (by rfl) (by rfl) (fun wx _ => ?_) ?_
      · go_simp
        (first | (intro hc; omega) | (rw [if_neg (by omega)]) | omega)
      (try simp only [Act.put, List.setIfInBounds_toArray, List.set_cons_zero, List.set_cons_succ])
      apply OrP.ord_pt rfl (by rfl) (by rfl) (by rfl) (by rfl)
      intro wx hSw
      go_simp
      (try with_reducible rfl)
      (try simp only [Act.put, List.setIfInBounds_toArray, List.set_cons_zero, List.set_cons_succ])
      apply OrP.ord_pt rfl (by rfl) (by rfl) (by rfl) (by rfl)
      intro wx hSw
      go_simp
      (try with_reducible rfl)
      (try simp only [Act.put, List.setIfInBounds_toArray, List.set_cons_zero, List.set_cons_succ])
      refine OrP.ord_pt (v := .string (t.extract j t.size)) rfl (by rfl) (by rfl) (by rfl) (by rfl) (fun wx _ => ?_) ?_
      · go_simp
        (first | (intro hc; omega) | (rw [if_neg (by omega)]) | omega)
      (try simp only [Act.put, List.setIfInBounds_toArray, List.set_cons_zero, List.set_cons_succ])
      refine OrP.ord_pt (v := .string (t.extract 0 j ++ sg ++ t.extract j t.size)) rfl (by rfl) (by rfl) (by rfl) (by rfl) (fun wx _ => ?_) ?_
      · go_simp
        (first | (intro hc; omega) | (rw [if_neg (by omega)]) | omega)
      (try simp only [Act.put, List.setIfInBounds_toArray, List.set_cons_zero, List.set_cons_succ])
      apply OrP.ord_pt rfl (by rfl) (by rfl) (by rfl) (by rfl)
      intro wx hSw
      go_simp
      (try with_reducible rfl)
      (try simp only [Act.put, List.setIfInBounds_toArray, List.set_cons_zero, List.set_cons_succ])
      refine OrP.ord_nil ?_
      go_wp2_with fail
      go_ret
      have hu : (t.extract 0 j ++ sg ++ t.extract j t.size).size ≤ T + 1 ∧ T ≤ (t.extract 0 j ++ sg ++ t.extract j t.size).size + 1 := by simp only [ByteArray.size_append, ByteArray.size_extract]; omega
      have := Hfin.out _ hBe (t.extract 0 j ++ sg ++ t.extract j t.size) hu.1 hu.2
      simpa [hT] using this
end Go.Proofs.YtonehmjoolflfaaGreatDoor
