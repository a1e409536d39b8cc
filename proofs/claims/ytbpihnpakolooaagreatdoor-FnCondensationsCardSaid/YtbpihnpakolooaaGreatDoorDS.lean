
/- One step of l10Small: the walk, out of what its own calls tell. -/
import Derived.Test.YtbpihnpakolooaaGreatDoorDP
import Derived.Test.YtbpihnpakolooaaGreatDoorBa
import Derived.Test.YtbpihnpakolooaaGreatDoorGa
import Derived.Deep.DeepCutAuto
import Derived.Deep.CutBlock
import Derived.WalkLawsBesides
namespace Go.Proofs.YtbpihnpakolooaaGreatDoor
open Go Go.RowKit Grp
set_option linter.unusedSimpArgs false
set_option linter.unusedVariables false
theorem own_val {w : World} {B : Nat} {v : Value} {xs : List Int} (h : Ow w B v xs) : ∃ A n c, v = .slice A n c := by
 obtain ⟨A, c, e⟩ := h.val
 exact ⟨A, _, c, e⟩
set_option maxRecDepth 100000 in
set_option maxHeartbeats 8000000 in
theorem small_step (w0 w : World) (B S : Nat) (A : Option Addr) (n c lo : Nat) (E F : Option Int) (bs : List Int) (hb : SlB w0 B A n c bs) (hn : n ≤ 1048576) (hs : SrcE w0 B S A n c lo E w) (hBw : B ≤ w.heap.size) (most : Int) (m0 : 0 ≤ most) (m1 : most ≤ 16) (hF : Hid (LfF most E F))
  (hrec : Hid ((∀ g, E = some g → drw g 6 = 2) → ∃ F1, (∀ W, SrcE w0 B S A n c (up n lo) (E.map tick) W → B ≤ W.heap.size → Calls Tryz.prog 73 #[.pointer (some ⟨S, 0, none⟩), .int .i64 (most / 2)] W (DrM w0 B S A n c (up n lo) F1 W (Sml (most / 2)))) ∧
   (∀ W os q vs, Sml (most / 2) os q vs → SrcE w0 B S A n c (up n lo) F1 W → B ≤ W.heap.size → Calls Tryz.prog 73 #[.pointer (some ⟨S, 0, none⟩), .int .i64 (most / prodL os)] W (DrM w0 B S A n c lo F W (Sml (most / prodL os)))))) :
  Calls Tryz.prog 73 #[.pointer (some ⟨S, 0, none⟩), .int .i64 most] w (DrM w0 B S A n c lo F w (Sml most)) := by
 have hSw := hs.lt
 go_enter Tryz.func73, Tryz.ntmps73
 obtain ⟨W0, hW0⟩ : ∃ W0, w.alloc (.cells #[.slice none 0 0, .int .i64 0, .slice none 0 0] 26) = W0 := ⟨_, rfl⟩
 have bR : Blk W0 w.heap.size 26 #[.slice none 0 0, .int .i64 0, .slice none 0 0] := by rw [← hW0]; exact Blk.new _ _ _
 have s0 : SrcE w0 B S A n c lo E W0 := by rw [← hW0]; exact hs.alloc _
 have g0 : w.grownBy W0 (some S) := by rw [← hW0]; exact World.grownBy_alloc _ _ _
 have z0 : w.heap.size < W0.heap.size := by rw [← hW0]; simp
 go_wp2_with fail
 clear hW0
 refine (l01Next_e w0 _ B S A n c _ _ bs hb hn s0 6 ⟨by omega, by omega⟩ (by omega)).mono ?_
 rintro e w1 ⟨x, rfl, ⟨⟨x0, x1⟩, hx⟩, s1, g1⟩
 replace bR := bR.grown g1 (by simp; omega)
 replace g1 := g0.trans g1
 have z1 : w.heap.size < w1.heap.size := bR.lt
 have hx := hide hx
 clear s0 g0 z0
 go_upto_block 0 with fail
 go_cut [] (fun wx => ∃ lo' X, lo ≤ lo' ∧ SrcE w0 B S A n c lo' X wx ∧ (F = none ∨ F = eOrd most X) ∧ w.grownBy wx (some S) ∧ Blk wx w.heap.size 26 #[.slice none 0 0, .int .i64 0, .slice none 0 0])
 case rest =>
  clear bR g1 z1 s1 x0 x1 hx hrec hF
  obtain ⟨lo', X, hlo, s2, hFX, g1, bR⟩ := hcut
  have HL := hide hlo
  have HF := hide hFX
  have hF := trivial
  have hrec := trivial
  clear hlo hFX
  have z2 := bR.lt
  go_wp2_with fail
  refine (orders2_e w0 _ B S A n c _ _ bs hb hn s2 (by omega) most m0 (by omega)).mono ?_
  rintro e w5 ⟨v, os, rfl, oO, hO, hnil, s5, g5⟩
  replace bR := bR.grown g5 (by simp; omega)
  replace g1 := g1.trans g5
  clear s2 g5
  by_cases hm : most ≤ 1
  ·skip
   -- no orders
   obtain rfl := hnil hm
   obtain ⟨Ao, co, rfl⟩ := oO.val
   go_wp2_with fail
   go_loopw [10, 11] (fun mm i wr => mm = .int .i64 1 ∧ i = .int .i64 0 ∧ wr = w5) (fun _ _ _ => 0)
   case atStart => exact ⟨rfl, rfl, rfl⟩
   case round =>
    obtain ⟨rfl, rfl, rfl⟩ := hrel
    go_wp2_with fail
    refine (l01Divisor_v true 2 _ (by decide)).mono ?_
    rintro e w6 ⟨rfl, d6, h6⟩
    replace bR := bR.drewN d6
    replace oO := oO.drewN d6
    replace s5 := s5.drewN d6
    replace g1 : w.grownBy (World.drewN _ d6) (some S) := g1.trans ⟨rfl, rfl, rfl, Nat.le_refl _, fun _ _ _ => rfl⟩
    rw [← h6] at bR oO s5 g1
    clear h6
    have z6 := bR.lt
    have hE1 : Sl ((w6.alloc (.cells #[] 2)).alloc (.cells #[] 2)) ((w6.alloc (.cells #[] 2)).alloc (.cells #[] 2)).heap.size (some ⟨w6.heap.size, 0, none⟩) 0 0 [] := ⟨rfl, Nat.le_refl _, by simp, fun h => absurd h (by omega), fun h => by cases h⟩
    have hE2 : Sl ((w6.alloc (.cells #[] 2)).alloc (.cells #[] 2)) ((w6.alloc (.cells #[] 2)).alloc (.cells #[] 2)).heap.size (some ⟨w6.heap.size + 1, 0, none⟩) 0 0 [] := ⟨rfl, Nat.le_refl _, by simp, fun h => absurd h (by omega), fun h => by cases h⟩
    replace bR := (bR.alloc (.cells #[] 2)).alloc (.cells #[] 2)
    replace oO := (oO.alloc (.cells #[] 2)).alloc (.cells #[] 2)
    replace s5 := (s5.alloc (.cells #[] 2)).alloc (.cells #[] 2)
    replace g1 := (g1.trans (World.grownBy_alloc _ (.cells #[] 2) _)).trans (World.grownBy_alloc _ (.cells #[] 2) _)
    obtain ⟨w7, h7⟩ : ∃ w7, (w6.alloc (.cells #[] 2)).alloc (.cells #[] 2) = w7 := ⟨_, rfl⟩
    rw [h7] at bR oO s5 g1 hE1 hE2
    go_wp2_with fail
    clear h7
    go_loopw [12, 13, 14] (fun sq pr i wr => sq = .slice (some ⟨w6.heap.size, 0, none⟩) 0 0 ∧ pr = .slice (some ⟨w6.heap.size + 1, 0, none⟩) 0 0 ∧ i = .int .i64 0 ∧ wr = w7) (fun _ _ _ _ => 0)
    case atStart => exact ⟨rfl, rfl, rfl, rfl⟩
    case round =>
     obtain ⟨rfl, rfl, rfl, rfl⟩ := hrel
     obtain ⟨Aw, cw, hvw, slO⟩ := oO.sl (by simp)
     obtain ⟨rfl, rfl⟩ : Ao = Aw ∧ co = cw := by injection hvw with a _ b; exact ⟨a, b⟩
     go_wp2_with fail
     refine (l10From_nil _ _ _ 2 _ _ _ _ slO hE1 hE2 (by omega) (by omega)).mono ?_
     rintro e w8 ⟨v1, v2, rfl, o1, o2, ap, hb8⟩
     have z7 := bR.lt
     have sf := s5.all hb8 (by omega)
     have gf := grown_below g1 (hb8.mono (by omega))
     replace bR := bR.all hb8
     replace o1 := o1.less (show w.heap.size ≤ _ by omega)
     replace o2 := o2.less (show w.heap.size ≤ _ by omega)
     have hP := hide (nil_sml hm)
     clear hb8 s5 g1
     (clear hF hrec)
     have hres := bR
     have r0 := hres.cell 0
     have r1 := hres.cell 1
     have r2 := hres.cell 2
     have f0 := hres.frozen 0
     have f1 := hres.frozen 1
     have f2 := hres.frozen 2
     obtain ⟨A1, n1, c1, rfl⟩ := own_val o1
     obtain ⟨A2, n2, c2, rfl⟩ := own_val o2
     go_wp2_with fail
     have hb3 := put3_blk (x := .slice A1 n1 c1) (y := .int .i64 2) (z := .slice A2 n2 c2) hres
     have q0 := hb3.cell 0
     have q1 := hb3.cell 1
     have q2 := hb3.cell 2
     unfold put3 at q0 q1 q2
     refine bodyPost_ret (v := .agg #[.slice A1 n1 c1, .int .i64 2, .slice A2 n2 c2]) (by simp [results, Tryz.results73, go_sem, q0, q1, q2]) rfl ?_
     exact drM_fin rfl hSw hBw hP.out bR o1 o2 ap sf HL.out HF.out gf
  ·have HN := hide (show F = none ∨ F = none from by
    have := HF.out
    unfold eOrd at this
    rw [if_neg hm] at this
    exact this)
   -- some orders
   obtain ⟨g1O, g2O, g3O, g4O, g5O⟩ := hO
   have hne : os ≠ [] := g5O (by omega)
   have hG : OkG os := ⟨by cases os with | nil => exact absurd rfl hne | cons => simp, by omega, fun m hm => (g1O m hm).1, fun m hm => by have := (g1O m hm).2; omega, by omega⟩
   have hOH := hide (show OrdP most os from ⟨g1O, g2O, g3O, g4O, g5O⟩)
   have g1H := hide g1O
   have hrg := hide (show ∀ x ∈ os, i64ok x from fun x hx => by have := g1O x hx; exact ⟨by omega, by omega⟩)
   clear hnil g1O g4O g5O hne
   have sA := s5.any
   obtain ⟨Ao, co, rfl, slO⟩ := oO.sl hrg.out
   have hp16 := hG.p16
   have hpp := hide (fun k => hG.take_le k)
   go_wp2_with fail
   go_loopw [10, 11] (fun mm i wr => ∃ k M : Nat, k ≤ os.length ∧ i = .int .i64 k ∧ mm = .int .i64 M ∧ 1 ≤ M ∧ (M : Int) ≤ prodL (os.take k) ∧ Dr w5 wr) (fun _ i _ => os.length - (intOf i).toNat)
   case atStart => exact ⟨0, 1, by omega, rfl, rfl, by omega, by simp [prodL], Dr.refl _⟩
   case round =>
    obtain ⟨k, M, hk, rfl, rfl, hM1, hM2, hDr⟩ := hrel
    by_cases hlt : k < os.length
    ·obtain ⟨b, off, rfl, hb, hc⟩ := slO.at_ (by omega)
     have c1 := hc k hlt
     clear hc
     have hm2 := g1H.out _ (gi_mem hlt)
     have hsn := hide (show prodL (os.take (k + 1)) = prodL (os.take k) * gi os k by rw [take_gi hlt, prodL_snoc])
     obtain ⟨m, hm⟩ := Int.eq_ofNat_of_zero_le (show 0 ≤ gi os k by omega)
     rw [hm] at c1 hm2 hsn
     clear hm
     have hM16 : (M : Int) ≤ 16 := by have := (hpp.out k).2; omega
     have hCom := fun W => l10Common_any W M m (by omega) (by omega)
     obtain ⟨g, hg⟩ : ∃ g, Nat.gcd M m = g := ⟨_, rfl⟩
     obtain ⟨e, he⟩ : ∃ e, M / g = e := ⟨_, rfl⟩
     obtain ⟨e1, e2, e3⟩ := lcm_step hg he hM1
     rw [hg] at hCom
     have t1 : (M : Int).tdiv g = e := by rw [Int.tdiv_eq_ediv_of_nonneg (by omega), ← he]; rfl
     have t1' : (M : Int) / g = e := by rw [← he]; rfl
     have t2 : IntKind.i64.wrap (e : Int) = e := wrap_in (by omega) (by omega)
     have hem : e * m ≤ M * m := Nat.mul_le_mul_right _ e3
     have hem1 : 1 * 1 ≤ e * m := Nat.mul_le_mul e1 (by omega)
     have hem2 : M * m ≤ 16 * 12 := Nat.mul_le_mul (by omega) (by omega)
     obtain ⟨N, hN⟩ : ∃ N, e * m = N := ⟨_, rfl⟩
     have hNp := hide (show (N : Int) ≤ prodL (os.take (k + 1)) by
      rw [hsn.out, ← hN]
      have h1 : ((e * m : Nat) : Int) ≤ ((M * m : Nat) : Int) := by exact_mod_cast hem
      have h2 : (M : Int) * m ≤ prodL (os.take k) * m := Int.mul_le_mul_of_nonneg_right hM2 (by omega)
      rw [Int.natCast_mul M m] at h1
      omega)
     have t3 : IntKind.i64.wrap ((e : Int) * m) = N := by rw [← Int.natCast_mul, hN]; exact wrap_in (by omega) (by omega)
     have hN1 : 1 ≤ N := by omega
     have z4 : ¬ (g : Int) = 0 := by omega
     have z8 : ¬ g = 0 := by omega
     have q1 : (k : Int) < (os.length : Int) := by omega
     clear hg he hem hem1 hem2 hN hM2
     go_wp2_with fail
     refine wp_region_dr [0, 1, 2, 3, 4, 5, 8, 9, 10, 11, 6, 7, 12, 13] 13 w5 (by kernel_rfl) (by kernel_rfl) (by kernel_rfl) (fun _ _ _ _ _ h => h) hDr (fun wd hDr => ?_)
     repeat (first | (apply ord_tk rfl (by rfl) (by rfl) (by rfl); (focus (rintro w ⟨dm, rfl⟩; go_simp; (try with_reducible rfl))); (try simp only [Act.put, List.setIfInBounds_toArray, List.set_cons_zero, List.set_cons_succ])) | (apply ord_skip rfl (by rfl) (by rfl) (fun _ => hDr); (try simp only [Act.put, List.setIfInBounds_toArray, List.set_cons_zero, List.set_cons_succ])))
     refine ord_do rfl (by rfl) (by rfl) (fun K hK => ?_)
     go_simp
     refine (hCom _).mono ?_
     rintro e wd' ⟨rfl, dm, hwd⟩
     replace hDr := hDr.step hwd
     clear hwd
     refine hK.out _ _ (fun _ => hDr) ?_
     (try simp only [Act.put, List.setIfInBounds_toArray, List.set_cons_zero, List.set_cons_succ])
     clear hK K
     repeat (first | (apply ord_tk rfl (by rfl) (by rfl) (by rfl); (focus (rintro w ⟨dm, rfl⟩; go_simp; (try with_reducible rfl))); (try simp only [Act.put, List.setIfInBounds_toArray, List.set_cons_zero, List.set_cons_succ])) | (apply ord_skip rfl (by rfl) (by rfl) (fun _ => hDr); (try simp only [Act.put, List.setIfInBounds_toArray, List.set_cons_zero, List.set_cons_succ])))
     refine ord_do rfl (by rfl) (by rfl) (fun K hK => ?_)
     go_simp
     refine hK.out _ _ (fun h => absurd h (by omega)) ?_
     (try simp only [Act.put, List.setIfInBounds_toArray, List.set_cons_zero, List.set_cons_succ])
     clear hK K
     refine ord_nil ?_
     go_wp2_with fail
     go_roundw
     case rel => exact ⟨k + 1, N, by omega, by go_num, rfl, hN1, hNp.out, hDr⟩
     case measure => simp [intOf] <;> omega
    ·obtain rfl : k = os.length := by omega
     have hM16 : (M : Int) ≤ 16 := by rw [List.take_length] at hM2; omega
     clear hM2 hlt hk
     have u1 : IntKind.i64.wrap (2 * (M : Int)) = 2 * (M : Int) := wr64 _ ⟨by omega, by omega⟩
     have u2 : ¬ (2 * (M : Int)) = 0 := by omega
     have u3 : (55440 : Int).tmod (2 * (M : Int)) = 55440 % (2 * (M : Int)) := Int.tmod_eq_emod_of_nonneg (by omega)
     go_upto_if 107 with fail
     go_cut [10] (fun s10 wx => ∃ D : Nat, s10 = .int .i64 D ∧ 1 ≤ D ∧ D ≤ 32 ∧ wx = wr)
     case first =>
      by_cases h5 : (55440 : Int) % (2 * (M : Int)) = 0
      ·go_wp2_with fail
       go_meet
       exact ⟨2 * M, by go_num, by omega, by omega, rfl⟩
      ·go_wp2_with fail
       go_meet
       exact ⟨M, rfl, by omega, by omega, rfl⟩
     case rest =>
      clear u1 u2 u3 hM16 hM1
      obtain ⟨D, rfl, hD1, hD2, rfl⟩ := hcut
      by_cases hd : (55440 : Int) % (D : Int) = 0
      ·go_wp2_with fail
       refine (l01Divisor_v true D _ (ordB_t (by omega) hd)).mono ?_
       rintro e w6 ⟨rfl, d6, h6⟩
       replace hDr := hDr.step h6
       have hdd := hide hd
       clear h6 hd
       obtain ⟨L, hL⟩ : ∃ L, os.length = L := ⟨_, rfl⟩
       have hLL := hide hL
       have hS : OrdS w0 B S A n c lo' w w.heap.size (.slice Ao L co) (.slice (some ⟨w6.heap.size, 0, none⟩) 0 0) (.slice (some ⟨w6.heap.size + 1, 0, none⟩) 0 0) os [] [] ((w6.alloc (.cells #[] 2)).alloc (.cells #[] 2)) := by
        obtain ⟨m, rfl⟩ := hDr
        rw [← hL]
        have k1 := bR.lt
        have oB := (oO.drewN m).less (show w.heap.size ≤ _ by omega)
        refine ⟨((sA.drewN m).alloc _).alloc _, ((g1.trans (show w5.grownBy (w5.drewN m) (some S) from ⟨rfl, rfl, rfl, Nat.le_refl _, fun _ _ _ => rfl⟩)).trans (World.grownBy_alloc (w5.drewN m) (.cells #[] 2) _)).trans (World.grownBy_alloc ((w5.drewN m).alloc (.cells #[] 2)) (.cells #[] 2) _), ((bR.drewN m).alloc _).alloc _, (oB.alloc _).alloc _, ?_, ?_, ?_, ?_, ?_⟩
        ·exact ((Ow.made' (xs := []) (w5.drewN m) #[] _ 0 rfl rfl (Nat.le_refl _) rfl (by unfold maxLen; omega)).less (show w.heap.size ≤ w5.heap.size by omega)).alloc _
        ·exact (Ow.made' (xs := []) ((w5.drewN m).alloc (.cells #[] 2)) #[] _ 0 (by simp) rfl (Nat.le_refl _) rfl (by unfold maxLen; omega)).less (by simp; omega)
        ·exact fun b hb e => by have := oB.lt b hb; have z : (w5.drewN m).heap.size = w5.heap.size := rfl; simp [Value.ownBlock] at e; omega
        ·exact fun b hb e => by have := oB.lt b hb; have z : (w5.drewN m).heap.size = w5.heap.size := rfl; simp [Value.ownBlock] at e; omega
        ·exact fun b hb e => by simp [Value.ownBlock] at hb e; omega
       obtain ⟨w7, h7⟩ : ∃ w7, (w6.alloc (.cells #[] 2)).alloc (.cells #[] 2) = w7 := ⟨_, rfl⟩
       rw [h7] at hS
       rw [hL]
       clear hL slO oO sA s5 g1 bR hDr
       go_wp2_with fail
       clear h7
       have htri := hide (tri_le L (by have := hG.l4; have := hLL.out; omega))
       go_loopw [12, 13, 14] (fun sv pv i wr => ∃ (k : Nat) (v1 v2 : Value) (sq pr : List Int), k ≤ L ∧ i = .int .i64 k ∧ v1 = sv ∧ v2 = pv ∧ sq.length = k ∧ pr.length + tri (L - k) = tri L ∧ (∀ x ∈ sq, 0 ≤ x ∧ x < D) ∧ (∀ x ∈ pr, 0 ≤ x ∧ x < D) ∧ OrdS w0 B S A n c lo' w w.heap.size (.slice Ao L co) v1 v2 os sq pr wr) (fun _ _ i _ => L - (intOf i).toNat)
       case atStart => exact ⟨0, _, _, [], [], by omega, rfl, rfl, rfl, rfl, by simp, by simp, by simp, hS⟩
       case round =>
        clear hS
        obtain ⟨k, v1, v2, sq, pr, hk, rfl, rfl, rfl, hsq, hpr, hsr, hprr, hS⟩ := hrel
        by_cases hlt : k < L
        ·have hlt2 : k < os.length := by rw [hLL.out]; exact hlt
         have hm2 := g1H.out _ (gi_mem hlt2)
         have c1 : wr.cell? ⟨0, 0, none⟩ = wr.cell? ⟨0, 0, none⟩ := rfl
         obtain ⟨ob, oc, hvo⟩ : ∃ ob oc, (Value.slice Ao L co) = .slice (some ⟨ob, 0, none⟩) L oc := by
          rcases hS.o.form with ⟨h1, h2⟩ | ⟨g, cap, h1, _⟩
          ·rw [h2] at hlt2; simp at hlt2
          ·injection h1 with a1 a2 a3; exact ⟨g, co, by rw [a1]⟩
         obtain ⟨rfl, rfl⟩ : Ao = some ⟨ob, 0, none⟩ ∧ co = oc := by injection hvo with a _ b; exact ⟨a, b⟩
         clear c1 hvo
         have c1 := hS.o.cell hLL.out.symm (show k < L from hlt)
         obtain ⟨m, hm⟩ := Int.eq_ofNat_of_zero_le (show 0 ≤ gi os k by omega)
         rw [hm] at c1 hm2
         clear hm
         have hCom := hide (fun W => l10Common_any W D m (by omega) (by omega))
         obtain ⟨g, hg⟩ : ∃ g, Nat.gcd D m = g := ⟨_, rfl⟩
         obtain ⟨e, he⟩ : ∃ e, D / g = e := ⟨_, rfl⟩
         obtain ⟨e1, e2, e3⟩ := lcm_step hg he hD1
         rw [hg] at hCom
         have t1 : (D : Int).tdiv g = e := by rw [Int.tdiv_eq_ediv_of_nonneg (by omega), ← he]; rfl
         have t1' : (D : Int) / g = e := by rw [← he]; rfl
         have t2 : IntKind.i64.wrap (e : Int) = e := wrap_in (by omega) (by omega)
         have z4 : ¬ (g : Int) = 0 := by omega
         have z8 : ¬ g = 0 := by omega
         have q1 : (k : Int) < (L : Int) := by omega
         have hSz := hS.src.lt
         have hRS : w.heap.size ≠ S := by omega
         clear hg he
         go_wp2_with fail
         refine wp_region_ord [0, 1, 2, 5, 6, 3, 4, 7, 8, 9] 9 (fun _ => True) (by kernel_rfl) (by kernel_rfl) (by kernel_rfl) (fun _ _ _ _ _ h => h) trivial ?_
         repeat (apply ord_take rfl (by rfl) (by rfl); (focus (intro w hSw; (try dsimp only at hSw); go_simp; (try with_reducible rfl))); (try simp only [Act.put, List.setIfInBounds_toArray, List.set_cons_zero, List.set_cons_succ]))
         refine ord_do rfl (by rfl) (by rfl) (fun K hK => ?_)
         go_simp
         refine (hCom.out _).mono ?_
         rintro e wd ⟨rfl, dm, hwd⟩
         have hS1 := hS.drew.drewN dm
         rw [← hwd] at hS1
         clear hwd hS
         refine hK.out _ _ (fun _ => trivial) ?_
         (try simp only [Act.put, List.setIfInBounds_toArray, List.set_cons_zero, List.set_cons_succ])
         clear hK K
         repeat (apply ord_take rfl (by rfl) (by rfl); (focus (intro w hSw; (try dsimp only at hSw); go_simp; (try with_reducible rfl))); (try simp only [Act.put, List.setIfInBounds_toArray, List.set_cons_zero, List.set_cons_succ]))
         refine ord_do rfl (by rfl) (by rfl) (fun K hK => ?_)
         go_simp
         refine (l01Next_any w0 _ B S A n c lo' bs hb hn hS1.src (m : Int) ⟨by omega, by omega⟩).mono ?_
         rintro e w8 ⟨r, rfl, ⟨r0, r1, -⟩, s8, g8⟩
         replace r1 := r1 (by omega)
         have hS2 := hS1.call hRS s8 g8
         have p0 : 0 ≤ (e : Int) * r := Int.mul_nonneg (by omega) r0
         have p1 : (e : Int) * r ≤ 32 * 12 := Int.mul_le_mul (by omega) (by omega) r0 (by omega)
         obtain ⟨a, ha⟩ : ∃ a, (e : Int) * r = a := ⟨_, rfl⟩
         have t3 : IntKind.i64.wrap ((e : Int) * r) = a := by rw [ha] at p0 p1 ⊢; exact wrap_in (by omega) (by omega)
         rw [ha] at p0 p1
         clear ha hS1 s8 g8
         refine hK.out _ _ (fun _ => trivial) ?_
         (try simp only [Act.put, List.setIfInBounds_toArray, List.set_cons_zero, List.set_cons_succ])
         clear hK K
         repeat (apply ord_take rfl (by rfl) (by rfl); (focus (intro w hSw; (try dsimp only at hSw); go_simp; (try with_reducible rfl))); (try simp only [Act.put, List.setIfInBounds_toArray, List.set_cons_zero, List.set_cons_succ]))
         refine ord_do rfl (by rfl) (by rfl) (fun K hK => ?_)
         go_simp
         refine hK.out _ _ (fun h => absurd h (by omega)) ?_
         (try simp only [Act.put, List.setIfInBounds_toArray, List.set_cons_zero, List.set_cons_succ])
         clear hK K
         refine ord_nil ?_
         clear t1 t1' t2 t3 z4 z8 c1
         go_upto_region 33 with fail
         go_cut [144] (fun s144 wx => ∃ b : Bool, s144 = .bool b ∧ wx = w8)
         case first =>
          have y1 : (m : Int).tmod 2 = (m : Int) % 2 := Int.tmod_eq_emod_of_nonneg (by omega)
          have y2 : IntKind.i64.wrap (2 * (m : Int)) = 2 * (m : Int) := wr64 _ ⟨by omega, by omega⟩
          have y3 : (D : Int).tmod (2 * (m : Int)) = (D : Int) % (2 * (m : Int)) := Int.tmod_eq_emod_of_nonneg (by omega)
          have y4 : ¬ (2 * (m : Int)) = 0 := by omega
          by_cases h1 : (m : Int) % 2 = 0
          ·by_cases h2 : (D : Int) % (2 * (m : Int)) = 0
           ·go_wp2_with fail
            go_meet
            exact ⟨_, rfl, rfl⟩
           ·go_wp2_with fail
            go_meet
            exact ⟨_, rfl, rfl⟩
          ·go_wp2_with fail
           go_meet
           exact ⟨_, rfl, rfl⟩
         case rest =>
          obtain ⟨b, rfl, rfl⟩ := hcut
          go_upto_if 144 with fail
          go_cut [16] (fun s16 wx => ∃ a : Int, s16 = .int .i64 a ∧ 0 ≤ a ∧ a ≤ 100000 ∧ OrdS w0 B S A n c lo' w w.heap.size (.slice (some ⟨ob, 0, none⟩) L co) v1 v2 os sq pr wx)
          case first =>
           cases b
           ·go_wp2_with fail
            go_meet
            exact ⟨a, rfl, p0, by omega, hS2⟩
           ·have y2 : IntKind.i64.wrap (2 * (m : Int)) = 2 * (m : Int) := wr64 _ ⟨by omega, by omega⟩
            have y4 : ¬ (2 * (m : Int)) = 0 := by omega
            have y5 : (D : Int).tdiv (2 * (m : Int)) = (D : Int) / (2 * (m : Int)) := Int.tdiv_eq_ediv_of_nonneg (by omega)
            have y6 := Int.ediv_nonneg (show 0 ≤ (D : Int) by omega) (show 0 ≤ 2 * (m : Int) by omega)
            have y7 : (D : Int) / (2 * (m : Int)) ≤ (D : Int) := Int.ediv_le_self _ (by omega)
            obtain ⟨f, hf⟩ : ∃ f, (D : Int) / (2 * (m : Int)) = f := ⟨_, rfl⟩
            rw [hf] at y5 y6 y7
            have y8 : IntKind.i64.wrap f = f := wr64 _ ⟨by omega, by omega⟩
            go_wp2_with fail
            refine wp_region_ord [0, 1, 2, 3, 4, 5, 6, 7, 8, 9] 9 (fun _ => True) (by kernel_rfl) (by kernel_rfl) (by kernel_rfl) (fun _ _ _ _ _ h => h) trivial ?_
            repeat (apply ord_take rfl (by rfl) (by rfl); (focus (intro w hSw; (try dsimp only at hSw); go_simp; (try with_reducible rfl))); (try simp only [Act.put, List.setIfInBounds_toArray, List.set_cons_zero, List.set_cons_succ]))
            refine ord_do rfl (by rfl) (by rfl) (fun K hK => ?_)
            go_simp
            have hS3 := hS2.drew
            refine (l01Next_any w0 _ B S A n c lo' bs hb hn hS3.src (2 * (m : Int)) ⟨by omega, by omega⟩).mono ?_
            rintro e w9 ⟨r, rfl, ⟨r0, r1, -⟩, s9, g9⟩
            replace r1 := r1 (by omega)
            have hS4 := hS3.call hRS s9 g9
            have p2 : 0 ≤ f * r := Int.mul_nonneg (by omega) r0
            have p3 : f * r ≤ 32 * 24 := Int.mul_le_mul (by omega) (by omega) r0 (by omega)
            obtain ⟨a2, ha⟩ : ∃ a, f * r = a := ⟨_, rfl⟩
            have t3 : IntKind.i64.wrap (f * r) = a2 := by rw [ha] at p2 p3 ⊢; exact wrap_in (by omega) (by omega)
            rw [ha] at p2 p3
            clear ha hS3 s9 g9
            refine hK.out _ _ (fun _ => trivial) ?_
            (try simp only [Act.put, List.setIfInBounds_toArray, List.set_cons_zero, List.set_cons_succ])
            clear hK K
            repeat (apply ord_take rfl (by rfl) (by rfl); (focus (intro w hSw; (try dsimp only at hSw); go_simp; (try with_reducible rfl))); (try simp only [Act.put, List.setIfInBounds_toArray, List.set_cons_zero, List.set_cons_succ]))
            refine ord_do rfl (by rfl) (by rfl) (fun K hK => ?_)
            go_simp
            refine hK.out _ _ (fun h => absurd h (by omega)) ?_
            (try simp only [Act.put, List.setIfInBounds_toArray, List.set_cons_zero, List.set_cons_succ])
            clear hK K
            refine ord_nil ?_
            go_wp2_with fail
            go_meet
            exact ⟨a2, rfl, p2, by omega, hS4⟩
          case rest =>
           clear hS2 p0 p1 r0 r1
           obtain ⟨a, rfl, a0, a1, hS⟩ := hcut
           have x1 : a.tmod (D : Int) = a % (D : Int) := Int.tmod_eq_emod_of_nonneg (by omega)
           have x2 := Int.emod_nonneg a (show (D : Int) ≠ 0 by omega)
           have x3 := Int.emod_lt_of_pos a (show 0 < (D : Int) by omega)
           obtain ⟨Y, hY⟩ : ∃ Y, a % (D : Int) = Y := ⟨_, rfl⟩
           rw [hY] at x1 x2 x3
           clear hY
           have z5 : ¬ D = 0 := by omega
           have z6 : ¬ (D : Int) = 0 := by omega
           have hJ := hS.alloc (.cells #[.int .i64 Y] 2)
           have hkz := hS.keep.size
           have hL4 : L ≤ 4 := by have := hG.l4; have := hLL.out; omega
           have v3 : IntKind.i64.wrap ((k : Int) + 1) = ((k + 1 : Nat) : Int) := by rw [wr64 _ ⟨by omega, by omega⟩]; omega
           have htd := hide (tri_drop hlt)
           have hprl := hide hpr
           clear hpr
           have htl := htri.out
           have hpl6 : pr.length ≤ 6 := by have := hprl.out; omega
           go_wp2_with (at_builtin; refine list_push _ rfl _ _ rfl w.heap.size v1 sq rfl hJ.s Y _ _ rfl (Blk.new _ _ _) (by omega) (by simp; omega) (by simp) ?_; intro g2 cap w10 hP; have hS5 := hJ.pushS hBw (by simp) hP)
           clear hS hJ hP x1
           go_loopw [13, 17] (fun pv i wr => ∃ (κ : Nat) (v2 : Value) (pr : List Int), k + 1 ≤ κ ∧ κ ≤ L ∧ i = .int .i64 κ ∧ v2 = pv ∧ pr.length + tri (L - (k + 1)) + (L - κ) = tri L ∧ (∀ x ∈ pr, 0 ≤ x ∧ x < D) ∧ OrdS w0 B S A n c lo' w w.heap.size (.slice (some ⟨ob, 0, none⟩) L co) (.slice (some ⟨g2, 0, none⟩) (sq.length + 1) cap) v2 os (sq ++ [Y]) pr wr) (fun _ i _ => L - (intOf i).toNat)
           case atStart => exact ⟨k + 1, v2, pr, by omega, by omega, by go_num, rfl, by have := htd.out; have := hprl.out; omega, hprr, hS5⟩
           case round =>
            clear hS5 hprl hprr hpl6
            obtain ⟨κ, v2, pr, hκ1, hκ2, rfl, rfl, hprl, hprr, hS⟩ := hrel
            have hPR := hide hprl
            have hpl6 : pr.length ≤ 6 := by omega
            clear hprl
            by_cases hlk : κ < L
            ·have c1 := hS.o.cell hLL.out.symm (show κ < L from hlk)
             have hm3 := g1H.out _ (gi_mem (show κ < os.length by rw [hLL.out]; exact hlk))
             obtain ⟨m2, hm⟩ := Int.eq_ofNat_of_zero_le (show 0 ≤ gi os κ by omega)
             rw [hm] at c1 hm3
             have hM2 := hide hm
             clear hm
             have hC1 := hide (fun W => l10Common_any W m m2 (by omega) (by omega))
             obtain ⟨h1, hh1⟩ : ∃ h1, Nat.gcd m m2 = h1 := ⟨_, rfl⟩
             have hh2 : 1 ≤ h1 ∧ h1 ≤ m := by
              have a1 := Nat.gcd_pos_of_pos_left m2 (show 0 < m by omega)
              have a2 := Nat.le_of_dvd (show 0 < m by omega) (Nat.gcd_dvd_left m m2)
              rw [hh1] at a1 a2; omega
             rw [hh1] at hC1
             have hC2 := hide (fun W => l10Common_any W D h1 (by omega) (by omega))
             obtain ⟨h3, hh3⟩ : ∃ h3, Nat.gcd D h1 = h3 := ⟨_, rfl⟩
             obtain ⟨e4, he4⟩ : ∃ e4, D / h3 = e4 := ⟨_, rfl⟩
             obtain ⟨f1, f2, f3⟩ := lcm_step hh3 he4 hD1
             rw [hh3] at hC2
             have t1 : (D : Int).tdiv h3 = e4 := by rw [Int.tdiv_eq_ediv_of_nonneg (by omega), ← he4]; rfl
             have t1' : (D : Int) / h3 = e4 := by rw [← he4]; rfl
             have t2 : IntKind.i64.wrap (e4 : Int) = e4 := wrap_in (by omega) (by omega)
             have z4 : ¬ (h3 : Int) = 0 := by omega
             have z8 : ¬ h3 = 0 := by omega
             have q1 : (κ : Int) < (L : Int) := by omega
             have hcell := hide (fun (v2 : Value) (pr : List Int) wx (hx : OrdS w0 B S A n c lo' w w.heap.size (.slice (some ⟨ob, 0, none⟩) L co) (.slice (some ⟨g2, 0, none⟩) (sq.length + 1) cap) v2 os (sq ++ [Y]) pr wx) => show wx.cell? ⟨ob, κ, none⟩ = some (.int .i64 (m2 : Int)) by
              have := hx.o.cell hLL.out.symm (show κ < L from hlk)
              rw [hM2.out] at this
              exact this)
             clear hh1 hh3 he4 x2 x3
             go_wp2_with fail
             refine wp_region_ord [0, 1, 2, 3, 4, 5, 6, 7, 11, 12, 15, 8, 9, 10, 13, 14, 16, 17, 18, 19] 19 (fun wx => wx.cell? ⟨ob, κ, none⟩ = some (.int .i64 (m2 : Int))) (by kernel_rfl) (by kernel_rfl) (by kernel_rfl) (fun _ _ _ _ _ h => h) c1 ?_
             repeat (apply ord_take rfl (by rfl) (by rfl); (focus (intro w hSw; (try dsimp only at hSw); go_simp; (try with_reducible rfl))); (try simp only [Act.put, List.setIfInBounds_toArray, List.set_cons_zero, List.set_cons_succ]))
             refine ord_do rfl (by rfl) (by rfl) (fun K hK => ?_)
             go_simp
             refine (hC1.out _).mono ?_
             rintro e wd ⟨rfl, dm, hwd⟩
             have hS1 := hS.drew.drewN dm
             rw [← hwd] at hS1
             clear hwd hS
             refine hK.out _ _ (fun _ => hcell.out _ _ _ hS1) ?_
             (try simp only [Act.put, List.setIfInBounds_toArray, List.set_cons_zero, List.set_cons_succ])
             clear hK K
             refine ord_do rfl (by rfl) (by rfl) (fun K hK => ?_)
             go_simp
             refine (hC2.out _).mono ?_
             rintro e wd2 ⟨rfl, dm, hwd⟩
             have hS2 := hS1.drewN dm
             rw [← hwd] at hS2
             clear hwd hS1
             refine hK.out _ _ (fun _ => hcell.out _ _ _ hS2) ?_
             (try simp only [Act.put, List.setIfInBounds_toArray, List.set_cons_zero, List.set_cons_succ])
             clear hK K
             repeat (apply ord_take rfl (by rfl) (by rfl); (focus (intro w hSw; (try dsimp only at hSw); go_simp; (try with_reducible rfl))); (try simp only [Act.put, List.setIfInBounds_toArray, List.set_cons_zero, List.set_cons_succ]))
             refine ord_do rfl (by rfl) (by rfl) (fun K hK => ?_)
             go_simp
             refine (l01Next_any w0 _ B S A n c lo' bs hb hn hS2.src (m : Int) ⟨by omega, by omega⟩).mono ?_
             rintro e w12 ⟨r, rfl, ⟨r0, r1, -⟩, s12, g12⟩
             replace r1 := r1 (by omega)
             have hS3 := hS2.call hRS s12 g12
             have p0 : 0 ≤ (e4 : Int) * r := Int.mul_nonneg (by omega) r0
             have p1 : (e4 : Int) * r ≤ 32 * 12 := Int.mul_le_mul (by omega) (by omega) r0 (by omega)
             obtain ⟨b2, hb2⟩ : ∃ a, (e4 : Int) * r = a := ⟨_, rfl⟩
             have t3 : IntKind.i64.wrap ((e4 : Int) * r) = b2 := by rw [hb2] at p0 p1 ⊢; exact wrap_in (by omega) (by omega)
             rw [hb2] at p0 p1
             have x1 : b2.tmod (D : Int) = b2 % (D : Int) := Int.tmod_eq_emod_of_nonneg (by omega)
             have x2 := Int.emod_nonneg b2 (show (D : Int) ≠ 0 by omega)
             have x3 := Int.emod_lt_of_pos b2 (show 0 < (D : Int) by omega)
             obtain ⟨Z, hZ⟩ : ∃ Y, b2 % (D : Int) = Y := ⟨_, rfl⟩
             rw [hZ] at x1 x2 x3
             clear hb2 hZ s12 g12 hS2
             refine hK.out _ _ (fun _ => hcell.out _ _ _ hS3) ?_
             (try simp only [Act.put, List.setIfInBounds_toArray, List.set_cons_zero, List.set_cons_succ])
             clear hK K
             repeat (apply ord_take rfl (by rfl) (by rfl); (focus (intro w hSw; (try dsimp only at hSw); go_simp; (try with_reducible rfl))); (try simp only [Act.put, List.setIfInBounds_toArray, List.set_cons_zero, List.set_cons_succ]))
             refine ord_do rfl (by rfl) (by rfl) (fun K hK => ?_)
             go_simp
             have hJ := hS3.alloc (.cells #[.int .i64 Z] 2)
             refine hK.out _ _ (fun _ => hcell.out _ _ _ hJ) ?_
             (try simp only [Act.put, List.setIfInBounds_toArray, List.set_cons_zero, List.set_cons_succ])
             clear hK K
             have hkz := hS3.keep.size
             refine ord_do rfl (by rfl) (by rfl) (fun K hK => ?_)
             refine wp_push _ _ _ (by rfl) w.heap.size v2 pr (by rfl) hJ.p _ w12.heap.size _ (by rfl) (Blk.new _ _ _) (by omega) (by simp; omega) (by simp) ?_
             intro g3 cap3 w13 hP
             have hS5 := hJ.pushP hBw (by simp) hP
             refine hK.out _ _ (fun _ => hcell.out _ _ _ hS5) ?_
             (try simp only [Act.put, List.setIfInBounds_toArray, List.set_cons_zero, List.set_cons_succ])
             clear hK K
             refine ord_do rfl (by rfl) (by rfl) (fun K hK => ?_)
             go_simp
             refine hK.out _ _ (fun h => absurd h (by omega)) ?_
             (try simp only [Act.put, List.setIfInBounds_toArray, List.set_cons_zero, List.set_cons_succ])
             clear hK K
             refine ord_nil ?_
             clear hJ hP hS3 x1 t1 t1' t2 t3 p0 p1
             go_wp2_with fail
             go_roundw
             case rel => exact ⟨κ + 1, _, pr ++ [Z], by omega, by omega, by go_num, rfl, by have := hPR.out; simp; omega, all_snoc hprr ⟨x2, x3⟩, hS5⟩
             case measure => simp [intOf] <;> omega
            ·obtain rfl : κ = L := by omega
             have hS6 := hS
             rw [hsq] at hS6
             clear hS
             go_wp2_with fail
             go_roundw
             case rel => exact ⟨k + 1, _, v2, sq ++ [Y], pr, by omega, by go_num, rfl, rfl, by simp; omega, by have := hPR.out; omega, all_snoc hsr ⟨x2, x3⟩, hprr, hS6⟩
             case measure => simp [intOf] <;> omega
        ·obtain rfl : k = L := by omega
         have h0 : tri (k - k) = 0 := by rw [Nat.sub_self]; rfl
         have hp0 := hide (show pr.length = tri os.length by rw [hLL.out]; omega)
         clear h0
         have hq0 := hide (show sq.length = os.length by rw [hLL.out]; exact hsq)
         obtain ⟨As, cs, rfl, slS⟩ := hS.s.sl (fun x hx => by have := hsr x hx; exact ⟨by omega, by omega⟩)
         obtain ⟨Ap, cp, rfl, slP⟩ := hS.p.sl (fun x hx => by have := hprr x hx; exact ⟨by omega, by omega⟩)
         obtain ⟨Aw, cw, hvw, slO⟩ := hS.o.sl hrg.out
         obtain ⟨rfl, rfl⟩ : Ao = Aw ∧ co = cw := by injection hvw with a _ b; exact ⟨a, b⟩
         rw [hLL.out] at slO
         rw [hsq] at slS
         clear hvw
         obtain ⟨N, hN⟩ : ∃ N : Nat, prodL os = N := ⟨(prodL os).toNat, by have := hG.ge; omega⟩
         have hsr' := hide (fun (x : Int) hx => show 0 ≤ x ∧ x ≤ 55440 by have := hsr x hx; omega)
         have hprr' := hide (fun (x : Int) hx => show 0 ≤ x ∧ x ≤ 55440 by have := hprr x hx; omega)
         have hP := hide (from_sml (sq := sq) (pr := pr) hOH.out m1 (by omega) (show (1 : Int) ≤ (D : Int) by omega) (by omega) hdd.out hN)
         have HN2 := hide hN
         have hz := hS.keep.size
         rw [hsq]
         clear hpr hsq hN hsr hprr
         go_wp2_with fail
         refine (l10From_any _ _ _ _ os (D : Int) _ _ _ sq _ _ _ pr slO slS slP hG (by omega) (by omega) hq0.out hp0.out hsr'.out hprr'.out N HN2.out).mono ?_
         rintro e w8 ⟨v1, v2, rfl, o1, o2, ap, hb8⟩
         have hbz := hS.src.hS
         have sf := hS.src.e.all hb8 (by omega)
         have gf := grown_below hS.keep (hb8.mono (by omega))
         have bR := hS.res.all hb8
         replace o1 := o1.less (show w.heap.size ≤ _ by omega)
         replace o2 := o2.less (show w.heap.size ≤ _ by omega)
         clear hb8 hS
         (clear hF hrec)
         have hres := bR
         have r0 := hres.cell 0
         have r1 := hres.cell 1
         have r2 := hres.cell 2
         have f0 := hres.frozen 0
         have f1 := hres.frozen 1
         have f2 := hres.frozen 2
         obtain ⟨A1, n1, c1, rfl⟩ := own_val o1
         obtain ⟨A2, n2, c2, rfl⟩ := own_val o2
         go_wp2_with fail
         have hb3 := put3_blk (x := .slice A1 n1 c1) (y := .int .i64 (D : Int)) (z := .slice A2 n2 c2) hres
         have q0 := hb3.cell 0
         have q1 := hb3.cell 1
         have q2 := hb3.cell 2
         unfold put3 at q0 q1 q2
         refine bodyPost_ret (v := .agg #[.slice A1 n1 c1, .int .i64 (D : Int), .slice A2 n2 c2]) (by simp [results, Tryz.results73, go_sem, q0, q1, q2]) rfl ?_
         exact drM_fin rfl hSw hBw hP.out bR o1 o2 ap sf HL.out HN.out gf
      ·go_wp2_with fail
       refine (l01Divisor_v false D _ (ordB_f2 hd)).mono ?_
       rintro e w6 ⟨rfl, d6, h6⟩
       replace hDr := hDr.step h6
       clear h6 hd
       have s6 : SrcE w0 B S A n c lo' none w6 := by obtain ⟨m, rfl⟩ := hDr; exact (sA.drewN m).e
       have g6 : w.grownBy w6 (some S) := by obtain ⟨m, rfl⟩ := hDr; exact g1.trans (show w5.grownBy (w5.drewN m) (some S) from ⟨rfl, rfl, rfl, Nat.le_refl _, fun _ _ _ => rfl⟩)
       have b6 : Blk w6 w.heap.size 26 #[.slice none 0 0, .int .i64 0, .slice none 0 0] := by obtain ⟨m, rfl⟩ := hDr; exact bR.drewN m
       clear sA s5 g1 bR hDr oO slO
       have z6 := b6.lt
       go_wp2_with fail
       refine (l10Cyclic_any _ 2 1 4 (by omega) (by omega) (by omega) (by omega) (by decide)).mono ?_
       rintro e w4 ⟨v1, v2, rfl, o1, o2, ap, hb4⟩
       have hP := hide (cyc_sml (most := most) (a := 1) (k := 2) (q := 4) (by decide) (by omega) (by decide))
       have sf := s6.all hb4 (by omega)
       have gf := grown_below g6 (hb4.mono (by omega))
       have bR := b6.all hb4
       replace o1 := o1.less (show w.heap.size ≤ _ by omega)
       replace o2 := o2.less (show w.heap.size ≤ _ by omega)
       clear hb4 s6 g6 b6
       (clear hF hrec)
       have hres := bR
       have r0 := hres.cell 0
       have r1 := hres.cell 1
       have r2 := hres.cell 2
       have f0 := hres.frozen 0
       have f1 := hres.frozen 1
       have f2 := hres.frozen 2
       obtain ⟨A1, n1, c1, rfl⟩ := own_val o1
       obtain ⟨A2, n2, c2, rfl⟩ := own_val o2
       go_wp2_with fail
       have hb3 := put3_blk (x := .slice A1 n1 c1) (y := .int .i64 4) (z := .slice A2 n2 c2) hres
       have q0 := hb3.cell 0
       have q1 := hb3.cell 1
       have q2 := hb3.cell 2
       unfold put3 at q0 q1 q2
       refine bodyPost_ret (v := .agg #[.slice A1 n1 c1, .int .i64 4, .slice A2 n2 c2]) (by simp [results, Tryz.results73, go_sem, q0, q1, q2]) rfl ?_
       exact drM_fin rfl hSw hBw hP.out bR o1 o2 ap sf HL.out HN.out gf
 case first =>
  by_cases c0 : x = 0
  ·have HF := hide (hF.out.case0 hx.out c0)
   subst c0
   go_wp2_with fail
   refine (l01Pick_e w0 _ B S A n c _ _ bs hb hn (s1.alloc _) w1.heap.size 2 9 [2, 3, 4, 5, 7, 8, 9, 11, 12] (Blk.new _ _ _) (by omega) rfl (by omega) (by omega)).mono ?_
   rintro e w2 ⟨k, rfl, hk, s2, g2⟩
   replace bR := (bR.alloc _).grown g2 (by simp; omega)
   replace g1 := (g1.trans (World.grownBy_alloc _ _ _)).trans g2
   have hk2 : 2 ≤ k ∧ k ≤ 12 := pick_mem hk (by decide)
   obtain ⟨k, rfl⟩ := Int.eq_ofNat_of_zero_le (show 0 ≤ k by omega)
   have HK := hide hk
   clear hk s1 z1 g2
   by_cases hkm : (k : Int) > most
   ·have v1 : IntKind.i64.wrap (2 * 2) = 4 := by decide
    go_wp2_with fail
    refine (l01Next_e w0 _ B S A n c _ _ bs hb hn s2 (4) ⟨by omega, by omega⟩ (by omega)).mono ?_
    rintro e w3 ⟨a, rfl, ⟨⟨a0, a1⟩, -⟩, s3, g3⟩
    replace bR := bR.grown g3 (by simp; omega)
    replace g1 := g1.trans g3
    clear s2 g3
    have bRlt := bR.lt
    go_wp2_with fail
    obtain ⟨q, hq⟩ : ∃ q, q = if ((2 : Nat) : Int) % 2 = 0 then 2 * ((2 : Nat) : Int) else (2 : Nat) := ⟨_, rfl⟩
    refine (l10Cyclic_any _ 2 a q (by omega) (by omega) a0 (by omega) hq).mono ?_
    rintro e w4 ⟨v1, v2, rfl, o1, o2, ap, hb4⟩
    have hP := hide (cyc_sml (most := most) (a := a) (by decide) (by omega) hq)
    clear hq
    have sf := s3.all hb4 (by omega)
    have gf := grown_below g1 (hb4.mono (by omega))
    replace bR := bR.all hb4
    replace o1 := o1.less (show w.heap.size ≤ _ by omega)
    replace o2 := o2.less (show w.heap.size ≤ _ by omega)
    clear hb4 s3 g1
    have HL := hide (show lo ≤ up n (up n (up n lo)) from Nat.le_trans (up_ge _ _) (Nat.le_trans (up_ge _ _) (up_ge _ _)))
    (clear hF hrec)
    have hres := bR
    have r0 := hres.cell 0
    have r1 := hres.cell 1
    have r2 := hres.cell 2
    have f0 := hres.frozen 0
    have f1 := hres.frozen 1
    have f2 := hres.frozen 2
    obtain ⟨A1, n1, c1, rfl⟩ := own_val o1
    obtain ⟨A2, n2, c2, rfl⟩ := own_val o2
    go_wp2_with fail
    have hb3 := put3_blk (x := .slice A1 n1 c1) (y := .int .i64 q) (z := .slice A2 n2 c2) hres
    have q0 := hb3.cell 0
    have q1 := hb3.cell 1
    have q2 := hb3.cell 2
    unfold put3 at q0 q1 q2
    refine bodyPost_ret (v := .agg #[.slice A1 n1 c1, .int .i64 q, .slice A2 n2 c2]) (by simp [results, Tryz.results73, go_sem, q0, q1, q2]) rfl ?_
    exact drM_fin rfl hSw hBw hP.out bR o1 o2 ap sf HL.out HF.out gf
   ·have v1 : IntKind.i64.wrap (2 * (k : Int)) = 2 * (k : Int) := wr64 _ ⟨by omega, by omega⟩
    go_wp2_with fail
    refine (l01Next_e w0 _ B S A n c _ _ bs hb hn s2 (2 * (k : Int)) ⟨by omega, by omega⟩ (by omega)).mono ?_
    rintro e w3 ⟨a, rfl, ⟨⟨a0, a1⟩, -⟩, s3, g3⟩
    replace bR := bR.grown g3 (by simp; omega)
    replace g1 := g1.trans g3
    clear s2 g3
    have bRlt := bR.lt
    go_wp2_with fail
    obtain ⟨q, hq⟩ : ∃ q, q = if ((k : Nat) : Int) % 2 = 0 then 2 * ((k : Nat) : Int) else (k : Nat) := ⟨_, rfl⟩
    refine (l10Cyclic_any _ k a q (by omega) (by omega) a0 (by omega) hq).mono ?_
    rintro e w4 ⟨v1, v2, rfl, o1, o2, ap, hb4⟩
    have hP := hide (cyc_sml (most := most) (a := a) HK.out (by omega) hq)
    clear hq
    have sf := s3.all hb4 (by omega)
    have gf := grown_below g1 (hb4.mono (by omega))
    replace bR := bR.all hb4
    replace o1 := o1.less (show w.heap.size ≤ _ by omega)
    replace o2 := o2.less (show w.heap.size ≤ _ by omega)
    clear hb4 s3 g1
    have HL := hide (show lo ≤ up n (up n (up n lo)) from Nat.le_trans (up_ge _ _) (Nat.le_trans (up_ge _ _) (up_ge _ _)))
    (clear hF hrec)
    have hres := bR
    have r0 := hres.cell 0
    have r1 := hres.cell 1
    have r2 := hres.cell 2
    have f0 := hres.frozen 0
    have f1 := hres.frozen 1
    have f2 := hres.frozen 2
    obtain ⟨A1, n1, c1, rfl⟩ := own_val o1
    obtain ⟨A2, n2, c2, rfl⟩ := own_val o2
    go_wp2_with fail
    have hb3 := put3_blk (x := .slice A1 n1 c1) (y := .int .i64 q) (z := .slice A2 n2 c2) hres
    have q0 := hb3.cell 0
    have q1 := hb3.cell 1
    have q2 := hb3.cell 2
    unfold put3 at q0 q1 q2
    refine bodyPost_ret (v := .agg #[.slice A1 n1 c1, .int .i64 q, .slice A2 n2 c2]) (by simp [results, Tryz.results73, go_sem, q0, q1, q2]) rfl ?_
    exact drM_fin rfl hSw hBw hP.out bR o1 o2 ap sf HL.out HF.out gf
  by_cases c1 : x = 1
  ·have HF := hide (hF.out.case1 hx.out c1)
   have HF0 := hF.out
   subst c1
   clear c0
   go_wp2_with fail
   refine (l01Pick_e w0 _ B S A n c _ _ bs hb hn (s1.alloc _) w1.heap.size 2 3 [2, 3, 4] (Blk.new _ _ _) (by omega) rfl (by omega) (by omega)).mono ?_
   rintro e w2 ⟨k, rfl, hk, s2, g2⟩
   replace bR := (bR.alloc _).grown g2 (by simp; omega)
   replace g1 := (g1.trans (World.grownBy_alloc _ _ _)).trans g2
   have hk2 : 2 ≤ k ∧ k ≤ 4 := pick_mem hk (by decide)
   obtain ⟨k, rfl⟩ := Int.eq_ofNat_of_zero_le (show 0 ≤ k by omega)
   clear hk s1 z1 g2
   have z2 := bR.lt
   have hkk : 0 ≤ (k : Int) * k ∧ (k : Int) * k ≤ 16 := by
    have h : k = 2 ∨ k = 3 ∨ k = 4 := by omega
    rcases h with rfl | rfl | rfl <;> decide
   have u1 : IntKind.i64.wrap ((k : Int) * k) = (k : Int) * k := wr64 _ ⟨by omega, by omega⟩
   by_cases hP : (k : Int) * k ≤ most
   ·have hq := hide (hyp_sml (show 2 ≤ k by omega) (by omega) hP)
    go_wp2_with fail
    refine (l10Hyperbolic_any _ k (by omega) (by omega)).mono ?_
    rintro e w4 ⟨v1, v2, rfl, o1, o2, ap, hb4⟩
    have sf := s2.all hb4 (by omega)
    have gf := grown_below g1 (hb4.mono (by omega))
    replace bR := bR.all hb4
    replace o1 := o1.less (show w.heap.size ≤ _ by omega)
    replace o2 := o2.less (show w.heap.size ≤ _ by omega)
    clear hb4 s2 g1 u1
    have HL := hide (show lo ≤ up n (up n lo) from Nat.le_trans (up_ge _ _) (up_ge _ _))
    have HN := hide (show F = none from HF0.big (by
     have h : k = 2 ∨ k = 3 ∨ k = 4 := by omega
     rcases h with rfl | rfl | rfl <;> omega))
    clear HF0
    (clear hF hrec)
    have hres := bR
    have r0 := hres.cell 0
    have r1 := hres.cell 1
    have r2 := hres.cell 2
    have f0 := hres.frozen 0
    have f1 := hres.frozen 1
    have f2 := hres.frozen 2
    obtain ⟨A1, n1, c1, rfl⟩ := own_val o1
    obtain ⟨A2, n2, c2, rfl⟩ := own_val o2
    go_wp2_with fail
    have hb3 := put3_blk (x := .slice A1 n1 c1) (y := .int .i64 (k : Int)) (z := .slice A2 n2 c2) hres
    have q0 := hb3.cell 0
    have q1 := hb3.cell 1
    have q2 := hb3.cell 2
    unfold put3 at q0 q1 q2
    refine bodyPost_ret (v := .agg #[.slice A1 n1 c1, .int .i64 (k : Int), .slice A2 n2 c2]) (by simp [results, Tryz.results73, go_sem, q0, q1, q2]) rfl ?_
    exact drM_fin rfl hSw hBw hq.out bR o1 o2 ap sf HL.out (.inl HN.out) gf
   ·have HL := hide (show lo ≤ up n (up n lo) from Nat.le_trans (up_ge _ _) (up_ge _ _))
    clear hkk HF0
    go_wp2_with fail
    go_meet
    exact ⟨_, _, HL.out, s2, HF.out, g1, bR⟩
  by_cases c2 : x = 2
  ·obtain ⟨F1, hA, hB⟩ := hrec.out (fun g hg => by have := hx.out g hg; omega)
   have HA := hide hA
   have HB := hide hB
   subst c2
   clear hA hB c0 c1
   have y1 : most.tdiv 2 = most / 2 := Int.tdiv_eq_ediv_of_nonneg (by omega)
   have y2 : IntKind.i64.wrap (most / 2) = most / 2 := wr64 _ ⟨by omega, by omega⟩
   go_wp2_with fail
   refine (HA.out _ s1 (by omega)).mono ?_
   rintro e w2 ⟨v1, v2, os1, D1, vs1, rfl, hR1, o1, o2, ap1, s2, g2⟩
   replace bR := bR.grown g2 (by simp; omega)
   replace g1 := g1.trans g2
   clear s1 HA g2 y1 y2
   have z2 := bR.lt
   obtain ⟨A1, c1, rfl, -⟩ := o1.sl hR1.rng1
   obtain ⟨A2, c2, rfl, -⟩ := o2.sl hR1.rng2
   obtain ⟨w3, gm, hgm, hw3, hB3, hsub, bM, hgB⟩ := be_alloc (Below.refl w2.heap.size w2) 26 #[.slice none 0 0, .int .i64 0, .slice none 0 0]
   have hgw : w.heap.size ≤ gm := by rw [← hgm]; omega
   replace o1 := o1.less (show w.heap.size ≤ _ by omega)
   replace o2 := o2.less (show w.heap.size ≤ _ by omega)
   have hgS : gm ≠ S := by have := s2.lt; rw [← hgm]; omega
   have q1 := put3_blk (x := .slice A1 os1.length c1) (y := .int .i64 D1) (z := .slice A2 vs1.length c2) bM
   have q2 := put3_own (x := .slice A1 os1.length c1) (y := .int .i64 D1) (z := .slice A2 vs1.length c2) bM (by decide) (o1.below hsub)
   have q3 := put3_own (x := .slice A1 os1.length c1) (y := .int .i64 D1) (z := .slice A2 vs1.length c2) bM (by decide) (o2.below hsub)
   have q4 := (s2.all hB3 (by omega)).put3 hgS (by omega) (.slice A1 os1.length c1) (.int .i64 D1) (.slice A2 vs1.length c2)
   have q5 := grown_put3 (grown_below g1 (hB3.mono (by omega))) (show w.heap.size ≤ gm by omega) (.slice A1 os1.length c1) (.int .i64 D1) (.slice A2 vs1.length c2)
   have q6 := put3_far (x := .slice A1 os1.length c1) (y := .int .i64 D1) (z := .slice A2 vs1.length c2) (bR.all hB3) (show w.heap.size ≠ gm by omega)
   obtain ⟨W3, hW3⟩ : ∃ W3, put3 w3 gm (.slice A1 os1.length c1) (.int .i64 D1) (.slice A2 vs1.length c2) = W3 := ⟨_, rfl⟩
   have r0 := bM.cell 0
   have r1 := bM.cell 1
   have r2 := bM.cell 2
   have f0 := bM.frozen 0
   have f1 := bM.frozen 1
   have f2 := bM.frozen 2
   rw [hW3] at q1 q2 q3 q4 q5 q6
   unfold put3 at hW3
   clear hB3 hsub bM bR s2 g1 o1 o2
   have j0 := q1.cell 0
   have j1 := q1.cell 1
   have j2 := q1.cell 2
   obtain ⟨Aw, cw, hvw, sl1⟩ := q2.sl hR1.rng1
   obtain ⟨rfl, rfl⟩ : A1 = Aw ∧ c1 = cw := by injection hvw with a _ b; exact ⟨a, b⟩
   clear hvw
   go_wp2_with fail
   clear hw3 hW3 r0 r1 r2 f0 f1 f2 hgm
   refine (l10Size_gen _ _ _ _ _ _ sl1 hR1.ok.l4 hR1.ok.m2 hR1.ok.p16).mono ?_
   rintro e w4 ⟨rfl, d4, h4⟩
   have hp1 := hR1.ok.pos
   have hp16 := hR1.ok.p16
   obtain ⟨P1, hP1⟩ : ∃ P, prodL os1 = P := ⟨_, rfl⟩
   have HB2 := fun W os q vs h1 h2 h3 => HB.out W os q vs h1 h2 h3
   have y1 : most.tdiv P1 = most / P1 := Int.tdiv_eq_ediv_of_nonneg (by omega)
   have y3 := Int.ediv_nonneg m0 (show 0 ≤ P1 by omega)
   have y4 : most / P1 ≤ most := Int.ediv_le_self _ m0
   have y2 : IntKind.i64.wrap (most / P1) = most / P1 := wr64 _ ⟨by omega, by omega⟩
   have y5 : ¬ P1 = 0 := by omega
   have hB1 := HB.out w4 os1 D1 vs1 hR1
   have hPP := hide hP1
   rw [hP1] at hB1 ⊢
   replace q1 := q1.drewN d4
   replace q2 := q2.drewN d4
   replace q3 := q3.drewN d4
   replace q4 := q4.drewN d4
   replace q5 : w.grownBy (W3.drewN d4) (some S) := q5.trans ⟨rfl, rfl, rfl, Nat.le_refl _, fun _ _ _ => rfl⟩
   replace q6 := q6.drewN d4
   rw [← h4] at q1 q2 q3 q4 q5 q6
   clear h4 hP1 sl1 HB2
   have z4 : w.heap.size < w4.heap.size := q6.lt
   go_wp2_with fail
   clear y1 y2 y5 j0 j1 j2 HB
   refine (hB1 q4 (by omega)).mono ?_
   rintro e w5 ⟨v3, v4, os2, D2, vs2, rfl, hR2, o3, o4, ap2, s5, g5⟩
   clear hB1
   obtain ⟨A3, c3, rfl, -⟩ := o3.sl hR2.rng1
   obtain ⟨A4, c4, rfl, -⟩ := o4.sl hR2.rng2
   replace q2 := q2.far g5 (q4.ne q2)
   replace q3 := q3.far g5 (q4.ne q3)
   replace q1 := q1.grown g5 (by simp; omega)
   replace q6 := q6.grown g5 (by simp; omega)
   replace q5 := q5.trans g5
   replace o3 := o3.less (show w.heap.size ≤ _ by omega)
   replace o4 := o4.less (show w.heap.size ≤ _ by omega)
   have hz5 := q1.lt
   have hz6 := q6.lt
   clear q4 g5
   obtain ⟨w6, gn, hgn, hw6, hB6, hsub, bN, hgB6⟩ := be_alloc (Below.refl w5.heap.size w5) 26 #[.slice none 0 0, .int .i64 0, .slice none 0 0]
   have hgnS : gn ≠ S := by have := s5.lt; rw [← hgn]; omega
   have hgmn : gm ≠ gn := by rw [← hgn]; omega
   have hgnw : w.heap.size < gn := by rw [← hgn]; omega
   have p1 := put3_blk (x := .slice A3 os2.length c3) (y := .int .i64 D2) (z := .slice A4 vs2.length c4) bN
   have p2 := put3_own (x := .slice A3 os2.length c3) (y := .int .i64 D2) (z := .slice A4 vs2.length c4) bN (by decide) (o3.below hsub)
   have p3 := put3_own (x := .slice A3 os2.length c3) (y := .int .i64 D2) (z := .slice A4 vs2.length c4) bN (by decide) (o4.below hsub)
   have p4 := (s5.all hB6 (by omega)).put3 hgnS (by omega) (.slice A3 os2.length c3) (.int .i64 D2) (.slice A4 vs2.length c4)
   have p5 := grown_put3 (grown_below q5 (hB6.mono (by omega))) (show w.heap.size ≤ gn by omega) (.slice A3 os2.length c3) (.int .i64 D2) (.slice A4 vs2.length c4)
   have p6 := put3_far (x := .slice A3 os2.length c3) (y := .int .i64 D2) (z := .slice A4 vs2.length c4) (q6.all hB6) (show w.heap.size ≠ gn by omega)
   have p7 := put3_far (x := .slice A3 os2.length c3) (y := .int .i64 D2) (z := .slice A4 vs2.length c4) (q1.all hB6) hgmn
   have p8 := put3_own (x := .slice A3 os2.length c3) (y := .int .i64 D2) (z := .slice A4 vs2.length c4) bN (by decide) (q2.below hsub)
   have p9 := put3_own (x := .slice A3 os2.length c3) (y := .int .i64 D2) (z := .slice A4 vs2.length c4) bN (by decide) (q3.below hsub)
   obtain ⟨W6, hW6⟩ : ∃ W6, put3 w6 gn (.slice A3 os2.length c3) (.int .i64 D2) (.slice A4 vs2.length c4) = W6 := ⟨_, rfl⟩
   have r0 := bN.cell 0
   have r1 := bN.cell 1
   have r2 := bN.cell 2
   have f0 := bN.frozen 0
   have f1 := bN.frozen 1
   have f2 := bN.frozen 2
   rw [hW6] at p1 p2 p3 p4 p5 p6 p7 p8 p9
   unfold put3 at hW6
   clear hB6 hsub bN q1 q2 q3 q5 q6 s5 o3 o4
   have hp2 := hR2.ok.pos
   have hp162 := hR2.ok.p16
   have hl1 := hR1.ok.l4
   have hl2 := hR2.ok.l4
   obtain ⟨P2, hP2⟩ : ∃ P, prodL os2 = P := ⟨_, rfl⟩
   have hPP2 := hide hP2
   rw [hP2] at hp2 hp162
   have hpp0 : 0 ≤ P1 * P2 := Int.mul_nonneg (by have := hPP.out; omega) (by omega)
   have hpp1 : P1 * P2 ≤ 16 * 16 := Int.mul_le_mul (by have := hPP.out; omega) hp162 (by omega) (by omega)
   have y1 : IntKind.i64.wrap (P1 * P2) = P1 * P2 := wr64 _ ⟨by omega, by omega⟩
   have y2 : IntKind.i64.wrap ((os1.length : Int) + (os2.length : Int)) = (os1.length : Int) + (os2.length : Int) := wr64 _ ⟨by omega, by omega⟩
   clear hP2
   have j0 := p7.cell 0
   have j1 := p7.cell 1
   have j2 := p7.cell 2
   have k0 := p1.cell 0
   have k1 := p1.cell 1
   have k2 := p1.cell 2
   have lm := p7.lt
   have ln := p1.lt
   obtain ⟨Aw, cw, hvw, slM⟩ := p8.sl hR1.rng1
   obtain ⟨rfl, rfl⟩ : A1 = Aw ∧ c1 = cw := by injection hvw with a _ b; exact ⟨a, b⟩
   obtain ⟨Ax, cx, hvx, slN⟩ := p2.sl hR2.rng1
   obtain ⟨rfl, rfl⟩ : A3 = Ax ∧ c3 = cx := by injection hvx with a _ b; exact ⟨a, b⟩
   clear hvw hvx
   go_wp2_with fail
   clear hw6 hW6 r0 r1 r2 f0 f1 f2 hgn
   have hz66 := p6.lt
   have hSz1 := hide (fun W (h : Below W6.heap.size W6 W) => ((l10Size_gen W _ _ _ _ _ (slM.below h) hR1.ok.l4 hR1.ok.m2 hR1.ok.p16).mono fun _ _ h => Qt.re h))
   have hSz2 := hide (fun W (h : Below W6.heap.size W6 W) => ((l10Size_gen W _ _ _ _ _ (slN.below h) hR2.ok.l4 hR2.ok.m2 hR2.ok.p16).mono fun _ _ h => Qt.re h))
   rw [hPP.out] at hSz1
   rw [hPP2.out] at hSz2
   by_cases hc : P1 * P2 ≤ most
   ·by_cases hl : (os1.length : Int) + (os2.length : Int) ≤ 4
    ·have hd1 : 1 ≤ D1 := hR1.ok.d1
     have hd2 : 1 ≤ D2 := hR2.ok.d1
     obtain ⟨d1, rfl⟩ := Int.eq_ofNat_of_zero_le (show 0 ≤ D1 by omega)
     obtain ⟨d2, rfl⟩ := Int.eq_ofNat_of_zero_le (show 0 ≤ D2 by omega)
     obtain ⟨qq, ee, DD, e1, e2, hQ⟩ := sumQ (D1 := d1) (D2 := d2) (Int.ofNat.inj (show Int.ofNat (55440 % d1) = Int.ofNat 0 from hR1.ok.dv)) (Int.ofNat.inj (show Int.ofNat (55440 % d2) = Int.ofNat 0 from hR2.ok.dv)) (by omega) (by omega)
     have hPs := hide (sum_sml hR1.ok hR2.ok hQ (by omega) (show prodL os1 * prodL os2 ≤ most by rw [hPP.out, hPP2.out]; exact hc) m1 (cat_ne (hPP.out ▸ hR2)))
     have hQH := hide hQ
     clear hQ hd1 hd2
     refine wp_region_be [0, 1, 3, 4, 7, 2, 5, 6, 8, 9, 10, 11, 12, 13, 14, 15, 16, 17, 18] 19 W6.heap.size W6 (by kernel_rfl) (by kernel_rfl) (by kernel_rfl) (fun _ _ _ _ _ h => h) (Below.refl _ _) (fun wd hBe => ?_)
     repeat (first | (apply ord_tk rfl (by rfl) (by rfl) (by rfl); (focus (intro wx hSw; have t0 := (hSw.cell (p := ⟨gm, 0, none⟩) lm).trans j0; have t1 := (hSw.cell (p := ⟨gn, 0, none⟩) ln).trans k0; go_simp; (try with_reducible rfl))); (try simp only [Act.put, List.setIfInBounds_toArray, List.set_cons_zero, List.set_cons_succ])) | (apply ord_skip rfl (by rfl) (by rfl) (fun _ => hBe); (try simp only [Act.put, List.setIfInBounds_toArray, List.set_cons_zero, List.set_cons_succ])))
     refine ord_do rfl (by rfl) (by rfl) (fun K hK => ?_)
     go_simp
     refine (hSz1.out _ hBe).mono ?_
     rintro e wd' ⟨rfl, hwd⟩
     replace hBe := hBe.trans (hwd.mono hBe.size)
     clear hwd
     refine hK.out _ _ (fun _ => hBe) ?_
     (try simp only [Act.put, List.setIfInBounds_toArray, List.set_cons_zero, List.set_cons_succ])
     clear hK K
     repeat (first | (apply ord_tk rfl (by rfl) (by rfl) (by rfl); (focus (intro wx hSw; have t0 := (hSw.cell (p := ⟨gm, 0, none⟩) lm).trans j0; have t1 := (hSw.cell (p := ⟨gn, 0, none⟩) ln).trans k0; go_simp; (try with_reducible rfl))); (try simp only [Act.put, List.setIfInBounds_toArray, List.set_cons_zero, List.set_cons_succ])) | (apply ord_skip rfl (by rfl) (by rfl) (fun _ => hBe); (try simp only [Act.put, List.setIfInBounds_toArray, List.set_cons_zero, List.set_cons_succ])))
     refine ord_do rfl (by rfl) (by rfl) (fun K hK => ?_)
     go_simp
     refine (hSz2.out _ hBe).mono ?_
     rintro e wd' ⟨rfl, hwd⟩
     replace hBe := hBe.trans (hwd.mono hBe.size)
     clear hwd
     refine hK.out _ _ (fun _ => hBe) ?_
     (try simp only [Act.put, List.setIfInBounds_toArray, List.set_cons_zero, List.set_cons_succ])
     clear hK K
     repeat (first | (apply ord_tk rfl (by rfl) (by rfl) (by rfl); (focus (intro wx hSw; have t0 := (hSw.cell (p := ⟨gm, 0, none⟩) lm).trans j0; have t1 := (hSw.cell (p := ⟨gn, 0, none⟩) ln).trans k0; go_simp; (try with_reducible rfl))); (try simp only [Act.put, List.setIfInBounds_toArray, List.set_cons_zero, List.set_cons_succ])) | (apply ord_skip rfl (by rfl) (by rfl) (fun _ => hBe); (try simp only [Act.put, List.setIfInBounds_toArray, List.set_cons_zero, List.set_cons_succ])))
     refine ord_nil ?_
     clear j0 j1 j2 k0 k1 k2 hSz1 hSz2 y1 y2
     replace p1 := p1.all hBe
     replace p2 := p2.below hBe
     replace p3 := p3.below hBe
     replace p4 := p4.all hBe (by omega)
     replace p5 := grown_below p5 (hBe.mono (by omega))
     replace p6 := p6.all hBe
     replace p7 := p7.all hBe
     replace p8 := p8.below hBe
     replace p9 := p9.below hBe
     clear hBe
     have j0 := p7.cell 0
     have j1 := p7.cell 1
     have j2 := p7.cell 2
     have k0 := p1.cell 0
     have k1 := p1.cell 1
     have k2 := p1.cell 2
     obtain ⟨Aw, cw, hv1, sl1⟩ := p8.sl hR1.rng1
     obtain ⟨rfl, rfl⟩ : A1 = Aw ∧ c1 = cw := by injection hv1 with a _ b; exact ⟨a, b⟩
     obtain ⟨Ax, cx, hv2, sl2⟩ := p9.sl hR1.rng2
     obtain ⟨rfl, rfl⟩ : A2 = Ax ∧ c2 = cx := by injection hv2 with a _ b; exact ⟨a, b⟩
     obtain ⟨Ay, cy, hv3, sl3⟩ := p2.sl hR2.rng1
     obtain ⟨rfl, rfl⟩ : A3 = Ay ∧ c3 = cy := by injection hv3 with a _ b; exact ⟨a, b⟩
     obtain ⟨Az, cz, hv4, sl4⟩ := p3.sl hR2.rng2
     obtain ⟨rfl, rfl⟩ : A4 = Az ∧ c4 = cz := by injection hv4 with a _ b; exact ⟨a, b⟩
     have hz7 := p6.lt
     clear hv1 hv2 hv3 hv4
     go_wp2_with fail
     refine (l10Sum_gen _ _ _ _ os1 d1 _ _ _ vs1 _ _ _ os2 d2 _ _ _ vs2 sl1 sl2 sl3 sl4 hR1.ok hR2.ok qq ee DD e1 e2 hQH.out).mono ?_
     rintro e w8 ⟨v1, v2, rfl, o1, o2, ap, hb8⟩
     have sf := p4.all hb8 (by omega)
     have gf := grown_below p5 (hb8.mono (by omega))
     have bR := p6.all hb8
     replace o1 := o1.less (show w.heap.size ≤ _ by omega)
     replace o2 := o2.less (show w.heap.size ≤ _ by omega)
     clear hb8 p1 p2 p3 p4 p5 p6 p7 p8 p9 j0 j1 j2 k0 k1 k2
     have hF := trivial
     have hrec := trivial
     (clear hF hrec)
     have hres := bR
     have r0 := hres.cell 0
     have r1 := hres.cell 1
     have r2 := hres.cell 2
     have f0 := hres.frozen 0
     have f1 := hres.frozen 1
     have f2 := hres.frozen 2
     obtain ⟨A1, n1, c1, rfl⟩ := own_val o1
     obtain ⟨A2, n2, c2, rfl⟩ := own_val o2
     go_wp2_with fail
     have hb3 := put3_blk (x := .slice A1 n1 c1) (y := .int .i64 (DD : Int)) (z := .slice A2 n2 c2) hres
     have q0 := hb3.cell 0
     have q1 := hb3.cell 1
     have q2 := hb3.cell 2
     unfold put3 at q0 q1 q2
     refine bodyPost_ret (v := .agg #[.slice A1 n1 c1, .int .i64 (DD : Int), .slice A2 n2 c2]) (by simp [results, Tryz.results73, go_sem, q0, q1, q2]) rfl ?_
     exact drM_fin rfl hSw hBw hPs.out bR o1 o2 ap sf (Nat.le_refl _) (.inr rfl) gf
    ·skip
     refine wp_region_be [0, 1, 3, 4, 7, 2, 5, 6, 8, 9, 10, 11, 12, 13, 14, 15, 16, 17, 18] 19 W6.heap.size W6 (by kernel_rfl) (by kernel_rfl) (by kernel_rfl) (fun _ _ _ _ _ h => h) (Below.refl _ _) (fun wd hBe => ?_)
     repeat (first | (apply ord_tk rfl (by rfl) (by rfl) (by rfl); (focus (intro wx hSw; have t0 := (hSw.cell (p := ⟨gm, 0, none⟩) lm).trans j0; have t1 := (hSw.cell (p := ⟨gn, 0, none⟩) ln).trans k0; go_simp; (try with_reducible rfl))); (try simp only [Act.put, List.setIfInBounds_toArray, List.set_cons_zero, List.set_cons_succ])) | (apply ord_skip rfl (by rfl) (by rfl) (fun _ => hBe); (try simp only [Act.put, List.setIfInBounds_toArray, List.set_cons_zero, List.set_cons_succ])))
     refine ord_do rfl (by rfl) (by rfl) (fun K hK => ?_)
     go_simp
     refine (hSz1.out _ hBe).mono ?_
     rintro e wd' ⟨rfl, hwd⟩
     replace hBe := hBe.trans (hwd.mono hBe.size)
     clear hwd
     refine hK.out _ _ (fun _ => hBe) ?_
     (try simp only [Act.put, List.setIfInBounds_toArray, List.set_cons_zero, List.set_cons_succ])
     clear hK K
     repeat (first | (apply ord_tk rfl (by rfl) (by rfl) (by rfl); (focus (intro wx hSw; have t0 := (hSw.cell (p := ⟨gm, 0, none⟩) lm).trans j0; have t1 := (hSw.cell (p := ⟨gn, 0, none⟩) ln).trans k0; go_simp; (try with_reducible rfl))); (try simp only [Act.put, List.setIfInBounds_toArray, List.set_cons_zero, List.set_cons_succ])) | (apply ord_skip rfl (by rfl) (by rfl) (fun _ => hBe); (try simp only [Act.put, List.setIfInBounds_toArray, List.set_cons_zero, List.set_cons_succ])))
     refine ord_do rfl (by rfl) (by rfl) (fun K hK => ?_)
     go_simp
     refine (hSz2.out _ hBe).mono ?_
     rintro e wd' ⟨rfl, hwd⟩
     replace hBe := hBe.trans (hwd.mono hBe.size)
     clear hwd
     refine hK.out _ _ (fun _ => hBe) ?_
     (try simp only [Act.put, List.setIfInBounds_toArray, List.set_cons_zero, List.set_cons_succ])
     clear hK K
     repeat (first | (apply ord_tk rfl (by rfl) (by rfl) (by rfl); (focus (intro wx hSw; have t0 := (hSw.cell (p := ⟨gm, 0, none⟩) lm).trans j0; have t1 := (hSw.cell (p := ⟨gn, 0, none⟩) ln).trans k0; go_simp; (try with_reducible rfl))); (try simp only [Act.put, List.setIfInBounds_toArray, List.set_cons_zero, List.set_cons_succ])) | (apply ord_skip rfl (by rfl) (by rfl) (fun _ => hBe); (try simp only [Act.put, List.setIfInBounds_toArray, List.set_cons_zero, List.set_cons_succ])))
     refine ord_nil ?_
     clear j0 j1 j2 k0 k1 k2 hSz1 hSz2 y1 y2
     replace p1 := p1.all hBe
     replace p2 := p2.below hBe
     replace p3 := p3.below hBe
     replace p4 := p4.all hBe (by omega)
     replace p5 := grown_below p5 (hBe.mono (by omega))
     replace p6 := p6.all hBe
     replace p7 := p7.all hBe
     replace p8 := p8.below hBe
     replace p9 := p9.below hBe
     clear hBe
     have j0 := p7.cell 0
     have j1 := p7.cell 1
     have j2 := p7.cell 2
     have k0 := p1.cell 0
     have k1 := p1.cell 1
     have k2 := p1.cell 2
     have hPm := hide (m_sml hR1 (hPP.out ▸ hR2) m0 (by rw [hPP.out, hPP2.out]; omega))
     have hz7 := p6.lt
     have bR := p6
     have hres := p6
     have r0 := hres.cell 0
     have r1 := hres.cell 1
     have r2 := hres.cell 2
     have f0 := hres.frozen 0
     have f1 := hres.frozen 1
     have f2 := hres.frozen 2
     obtain ⟨Ay, cy, hvy, slV⟩ := p9.sl hR1.rng2
     go_wp2_with fail
     have hb3 := put3_blk (x := .slice A1 os1.length c1) (y := .int .i64 D1) (z := .slice A2 vs1.length c2) hres
     have q0 := hb3.cell 0
     have q1 := hb3.cell 1
     have q2 := hb3.cell 2
     unfold put3 at q0 q1 q2
     refine bodyPost_ret (v := .agg #[.slice A1 os1.length c1, .int .i64 D1, .slice A2 vs1.length c2]) (by simp [results, Tryz.results73, go_sem, q0, q1, q2]) rfl ?_
     exact drM_fin rfl hSw hBw hPm.out bR p8 p9 ap1 p4 (Nat.le_refl _) (.inr rfl) p5
   ·skip
    refine wp_region_be [0, 1, 3, 4, 7, 2, 5, 6, 8, 9, 10, 11, 12, 13, 14, 15, 16, 17, 18] 19 W6.heap.size W6 (by kernel_rfl) (by kernel_rfl) (by kernel_rfl) (fun _ _ _ _ _ h => h) (Below.refl _ _) (fun wd hBe => ?_)
    repeat (first | (apply ord_tk rfl (by rfl) (by rfl) (by rfl); (focus (intro wx hSw; have t0 := (hSw.cell (p := ⟨gm, 0, none⟩) lm).trans j0; have t1 := (hSw.cell (p := ⟨gn, 0, none⟩) ln).trans k0; go_simp; (try with_reducible rfl))); (try simp only [Act.put, List.setIfInBounds_toArray, List.set_cons_zero, List.set_cons_succ])) | (apply ord_skip rfl (by rfl) (by rfl) (fun _ => hBe); (try simp only [Act.put, List.setIfInBounds_toArray, List.set_cons_zero, List.set_cons_succ])))
    refine ord_do rfl (by rfl) (by rfl) (fun K hK => ?_)
    go_simp
    refine (hSz1.out _ hBe).mono ?_
    rintro e wd' ⟨rfl, hwd⟩
    replace hBe := hBe.trans (hwd.mono hBe.size)
    clear hwd
    refine hK.out _ _ (fun _ => hBe) ?_
    (try simp only [Act.put, List.setIfInBounds_toArray, List.set_cons_zero, List.set_cons_succ])
    clear hK K
    repeat (first | (apply ord_tk rfl (by rfl) (by rfl) (by rfl); (focus (intro wx hSw; have t0 := (hSw.cell (p := ⟨gm, 0, none⟩) lm).trans j0; have t1 := (hSw.cell (p := ⟨gn, 0, none⟩) ln).trans k0; go_simp; (try with_reducible rfl))); (try simp only [Act.put, List.setIfInBounds_toArray, List.set_cons_zero, List.set_cons_succ])) | (apply ord_skip rfl (by rfl) (by rfl) (fun _ => hBe); (try simp only [Act.put, List.setIfInBounds_toArray, List.set_cons_zero, List.set_cons_succ])))
    refine ord_do rfl (by rfl) (by rfl) (fun K hK => ?_)
    go_simp
    refine (hSz2.out _ hBe).mono ?_
    rintro e wd' ⟨rfl, hwd⟩
    replace hBe := hBe.trans (hwd.mono hBe.size)
    clear hwd
    refine hK.out _ _ (fun _ => hBe) ?_
    (try simp only [Act.put, List.setIfInBounds_toArray, List.set_cons_zero, List.set_cons_succ])
    clear hK K
    repeat (first | (apply ord_tk rfl (by rfl) (by rfl) (by rfl); (focus (intro wx hSw; have t0 := (hSw.cell (p := ⟨gm, 0, none⟩) lm).trans j0; have t1 := (hSw.cell (p := ⟨gn, 0, none⟩) ln).trans k0; go_simp; (try with_reducible rfl))); (try simp only [Act.put, List.setIfInBounds_toArray, List.set_cons_zero, List.set_cons_succ])) | (apply ord_skip rfl (by rfl) (by rfl) (fun _ => hBe); (try simp only [Act.put, List.setIfInBounds_toArray, List.set_cons_zero, List.set_cons_succ])))
    refine ord_nil ?_
    clear j0 j1 j2 k0 k1 k2 hSz1 hSz2 y1 y2
    replace p1 := p1.all hBe
    replace p2 := p2.below hBe
    replace p3 := p3.below hBe
    replace p4 := p4.all hBe (by omega)
    replace p5 := grown_below p5 (hBe.mono (by omega))
    replace p6 := p6.all hBe
    replace p7 := p7.all hBe
    replace p8 := p8.below hBe
    replace p9 := p9.below hBe
    clear hBe
    have j0 := p7.cell 0
    have j1 := p7.cell 1
    have j2 := p7.cell 2
    have k0 := p1.cell 0
    have k1 := p1.cell 1
    have k2 := p1.cell 2
    have hPm := hide (m_sml hR1 (hPP.out ▸ hR2) m0 (by rw [hPP.out, hPP2.out]; omega))
    have hz7 := p6.lt
    have bR := p6
    have hres := p6
    have r0 := hres.cell 0
    have r1 := hres.cell 1
    have r2 := hres.cell 2
    have f0 := hres.frozen 0
    have f1 := hres.frozen 1
    have f2 := hres.frozen 2
    obtain ⟨Ay, cy, hvy, slV⟩ := p9.sl hR1.rng2
    go_wp2_with fail
    have hb3 := put3_blk (x := .slice A1 os1.length c1) (y := .int .i64 D1) (z := .slice A2 vs1.length c2) hres
    have q0 := hb3.cell 0
    have q1 := hb3.cell 1
    have q2 := hb3.cell 2
    unfold put3 at q0 q1 q2
    refine bodyPost_ret (v := .agg #[.slice A1 os1.length c1, .int .i64 D1, .slice A2 vs1.length c2]) (by simp [results, Tryz.results73, go_sem, q0, q1, q2]) rfl ?_
    exact drM_fin rfl hSw hBw hPm.out bR p8 p9 ap1 p4 (Nat.le_refl _) (.inr rfl) p5
  ·have HF := hide (hF.out.case3 hx.out c0 c1 c2)
   go_wp2_with fail
   go_meet
   exact ⟨_, _, up_ge _ _, s1, HF.out, g1, bR⟩
end Go.Proofs.YtbpihnpakolooaaGreatDoor
