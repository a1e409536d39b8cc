
/- The walks of l10Minus, NegativeMetric of both sides. The walks of NegativeMetric of both sides. -/
import Derived.Test.YtbpihnpakolooaaGreatDoorEa
import Derived.Test.YtbpihnpakolooaaGreatDoorC2
import Derived.Test.YtbpihnpakolooaaGreatDoorLa
import Derived.Test.YtbpihnpakolooaaGreatDoorBa
import Derived.WalkLawsBesides
namespace Go.Proofs.YtbpihnpakolooaaGreatDoor
open Go Go.RowKit Grp
set_option linter.unusedSimpArgs false
set_option linter.unusedVariables false

/-- The values of the negative of a metric. -/
def negL (D : Int) (vs : List Int) : List Int := vs.map fun v => (-v) % D
theorem negL_snoc (D : Int) {vs : List Int} {k : Nat} (h : k < vs.length) : negL D (vs.take (k + 1)) = negL D (vs.take k) ++ [(-(gi vs k)) % D] := by
 unfold negL; rw [take_gi h]; simp
theorem negL_len (D : Int) (vs : List Int) : (negL D vs).length = vs.length := by simp [negL]
set_option maxHeartbeats 2000000 in
theorem l10Minus_any (w : World) (A : Option Addr) (n c : Nat) (os : List Int) (D : Int) (A' : Option Addr) (n' c' : Nat) (vs : List Int)
  (h : Sl w w.heap.size A n c os) (h' : Sl w w.heap.size A' n' c' vs) (hok : OkM os D vs) :
  Calls Tryz.prog 80 #[.agg #[.slice A n c, .int .i64 D, .slice A' n' c']] w (MkM1 w os D (negL D vs)) := by
 obtain rfl := h'.len
 obtain rfl := h.len
 have hn16 := hok.lt
 have hn4 := hok.g.l4
 have d1 := hok.d1
 have d2 := hok.d2
 go_enter Tryz.func80, Tryz.ntmps80
 go_wp2_with fail
 obtain ⟨W, hW⟩ : ∃ W, (w.alloc (.cells #[.slice A os.length c, .int .i64 D, .slice A' vs.length c'] 26)).alloc (.cells #[.slice none 0 0, .int .i64 0, .slice none 0 0] 26) = W := ⟨_, rfl⟩
 have hbW : Below w.heap.size w W := by rw [← hW]; exact (by repeat (first | assumption | exact Below.refl _ _ | apply below_drewN | apply Below.drew | apply Below.alloc | apply Below.setCell | omega | (focus (simp; done)) | (focus (simp; omega))))
 have hszW : w.heap.size < W.heap.size := by rw [← hW]; simp; omega
 have hsW := hide (show W.heap.size = w.heap.size + 2 by rw [← hW]; simp)
 have bM : Blk W w.heap.size 26 #[.slice A os.length c, .int .i64 D, .slice A' vs.length c'] := by rw [← hW]; exact (Blk.new _ _ _).alloc _
 have bR : Blk W (w.heap.size + 1) 26 #[.slice none 0 0, .int .i64 0, .slice none 0 0] := by rw [← hW]; exact Blk.new' _ _ _ _ (by simp)
 have q0 := bM.cell 0
 have q1 := bM.cell 1
 have q2 := bM.cell 2
 rw [hW]
 clear hW
 have hs := (h.below hbW)
 have hs' := (h'.below hbW)
 refine wp_region_bt (.one 0 (.one 1 (.one 3 (.one 4 (.two 2 (.one 5 (.one 6 (.one 7 .nil))) 6 (.one 2 (.one 5 (.one 7 .nil)))))))) 7 W.heap.size W (by kernel_rfl) (by kernel_rfl) (by kernel_rfl) (fun _ _ _ _ _ h => h) (Below.refl _ _) (fun wd hBe => ?_)
 repeat (first | (apply ot_tk rfl (by rfl) (by rfl) (by rfl); (focus (intro wx hSw; have r0 := (hSw.cell (p := ⟨w.heap.size, 0, none⟩) hszW).trans q0; have r1 := (hSw.cell (p := ⟨w.heap.size, 1, none⟩) hszW).trans q1; have r2 := (hSw.cell (p := ⟨w.heap.size, 2, none⟩) hszW).trans q2; go_simp; (try with_reducible rfl))); (try simp only [Act.put, List.setIfInBounds_toArray, List.set_cons_zero, List.set_cons_succ])) | (apply ot_skip rfl (by rfl) (by rfl) (fun _ => hBe); (try simp only [Act.put, List.setIfInBounds_toArray, List.set_cons_zero, List.set_cons_succ])))
 refine ot_two ?_ ?_
 ·skip
  (refine ot_do rfl (by rfl) (by rfl) (fun K hK => ?_); go_simp; refine (l01Own_any _ _ _ _ _ _ (hs.below (hBe.mono (Nat.le_of_lt hszW))) (by have := hBe.size; omega) (by omega)).mono ?_; rintro e wn ⟨v, rfl, hO, hb2⟩; obtain ⟨Av, cv, rfl⟩ := hO.val; (try replace bO := bO.all hb2); replace hO := hO.less (show W.heap.size ≤ _ from hBe.size); replace hBe := hBe.trans (hb2.mono hBe.size); clear hb2; refine hK.out _ _ (fun _ => hBe) ?_; (try simp only [Act.put, List.setIfInBounds_toArray, List.set_cons_zero, List.set_cons_succ]); clear hK K)
  repeat (first | (apply ot_tk rfl (by rfl) (by rfl) (by rfl); (focus (intro wx hSw; have r0 := (hSw.cell (p := ⟨w.heap.size, 0, none⟩) hszW).trans q0; have r1 := (hSw.cell (p := ⟨w.heap.size, 1, none⟩) hszW).trans q1; have r2 := (hSw.cell (p := ⟨w.heap.size, 2, none⟩) hszW).trans q2; go_simp; (try with_reducible rfl))); (try simp only [Act.put, List.setIfInBounds_toArray, List.set_cons_zero, List.set_cons_succ])) | (apply ot_skip rfl (by rfl) (by rfl) (fun _ => hBe); (try simp only [Act.put, List.setIfInBounds_toArray, List.set_cons_zero, List.set_cons_succ])))
  (refine ot_do rfl (by rfl) (by rfl) (fun K hK => ?_); go_simp; obtain ⟨wa, g, hg, hwa, hBa, hsub, bO, hgB⟩ := be_alloc hBe 26 #[.slice none 0 0, .int .i64 0, .slice none 0 0]; rw [hwa, hg]; clear hwa hg; (try replace hO := hO.below hsub); clear hBe hsub; have hBe := hBa; clear hBa; refine hK.out _ _ (fun _ => hBe) ?_; (try simp only [Act.put, List.setIfInBounds_toArray, List.set_cons_zero, List.set_cons_succ]); clear hK K)
  have r0 := bO.cell 0
  have r1 := bO.cell 1
  have r2 := bO.cell 2
  have f0 := bO.frozen 0
  have f1 := bO.frozen 1
  have f2 := bO.frozen 2
  have hI : MetIn W W.heap.size (w.heap.size + 1) g (.slice Av os.length cv) os D (.slice none 0 0) [] (put3 _ g (.slice Av os.length cv) (.int .i64 D) (.slice none 0 0)) := ⟨put3_far (bR.all hBe) (by have := hsW.out; omega), put3_own bO (by decide) hO, put3_blk bO, Ow.nil _ _, fun b hb => by simp [Value.ownBlock], put3_below hBe hgB⟩
  refine ot_do rfl (by rfl) (by rfl) (fun K hK => ?_)
  go_simp
  refine hK.out _ _ (fun h => absurd h (by omega)) ?_
  (try simp only [Act.put, List.setIfInBounds_toArray, List.set_cons_zero, List.set_cons_succ])
  clear hK K
  refine ot_nil ?_
  clear r0 r1 r2 f0 f1 f2 bO hO
  have hRs := hide (show w.heap.size + 1 < g by have := hsW.out; omega)
  have hR0 := hide (show negL D (vs.take 0) = [] from rfl)
  go_wp2_with fail
  go_loopw [4] (fun x wr => ∃ (k : Nat) (vv : Value), k ≤ vs.length ∧ x = .int .i64 k ∧ MetIn W W.heap.size (w.heap.size + 1) g (.slice Av os.length cv) os D vv (negL D (vs.take k)) wr) (fun x _ => vs.length - (intOf x).toNat)
  case atStart => exact ⟨0, _, by omega, rfl, by rw [hR0.out]; exact hI⟩
  case round =>
   clear hI hBe
   obtain ⟨k, vv, hk, rfl, hI⟩ := hrel
   obtain ⟨xs, hxs⟩ : ∃ xs, negL D (vs.take k) = xs := ⟨_, rfl⟩
   have hlen : xs.length = k := by rw [← hxs, negL_len, List.length_take]; omega
   rw [hxs] at hI
   have hX := hide hxs
   have hL := hide hlen
   clear hxs hlen
   have hsz := hI.out.lt
   have p0 := (hI.below.cell (p := ⟨w.heap.size, 0, none⟩) hszW).trans q0
   have p1 := (hI.below.cell (p := ⟨w.heap.size, 1, none⟩) hszW).trans q1
   have p2 := (hI.below.cell (p := ⟨w.heap.size, 2, none⟩) hszW).trans q2
   by_cases hlt : k < vs.length
   ·obtain ⟨b, off, rfl, hb, hc⟩ := hs'.at_ (by omega)
    have cw := hc k hlt
    have c1 := (hI.below.cell (p := ⟨b, off + k, none⟩) (by show b < W.heap.size; omega)).trans cw
    clear hc
    have hv := hok.rng _ (gi_mem hlt)
    have hsn := hide (negL_snoc D hlt)
    obtain ⟨v, ev⟩ : ∃ v, gi vs k = v := ⟨_, rfl⟩
    rw [ev] at c1 cw hv hsn
    clear ev
    have i0 : 0 ≤ (k : Int) := by omega
    have i1 : (k : Int) < (vs.length : Int) := by omega
    have t1 : IntKind.i64.wrap (D - v) = D - v := wrap_in (by omega) (by omega)
    have t2 : (D - v).tmod D = (-v) % D := by rw [Int.tmod_eq_emod_of_nonneg (by omega), show D - v = -v + D by omega, Int.add_emod_right]
    have t3 : ¬ D = 0 := by omega
    obtain ⟨y, hy⟩ : ∃ y, (-v) % D = y := ⟨_, rfl⟩
    rw [hy] at t2 hsn
    clear hy
    have HR := hide (show ∀ wx, Below W.heap.size W wx → wx.cell? ⟨w.heap.size, 1, none⟩ = some (.int .i64 D) ∧ wx.cell? ⟨w.heap.size, 2, none⟩ = some (.slice (some ⟨b, off, none⟩) vs.length c') ∧ wx.cell? ⟨b, off + k, none⟩ = some (.int .i64 v) from fun wx hwx => ⟨(hwx.cell (p := ⟨w.heap.size, 1, none⟩) hszW).trans q1, (hwx.cell (p := ⟨w.heap.size, 2, none⟩) hszW).trans q2, (hwx.cell (p := ⟨b, off + k, none⟩) (by show b < W.heap.size; omega)).trans cw⟩)
    clear cw
    go_wp2_with fail
    refine wp_region_ord [0, 1, 2, 3, 4, 5, 6, 7, 8, 9, 10, 11, 12, 13, 14, 15, 16] 15 (fun w' => (w'.cell? ⟨g, 0, none⟩ = some (.slice Av os.length cv) ∧ w'.cell? ⟨g, 1, none⟩ = some (.int .i64 D) ∧ w'.cell? ⟨g, 2, none⟩ = some vv) ∧ w'.cell? ⟨w.heap.size, 1, none⟩ = some (.int .i64 D) ∧ w'.cell? ⟨w.heap.size, 2, none⟩ = some (.slice (some ⟨b, off, none⟩) vs.length c') ∧ w'.cell? ⟨b, off + k, none⟩ = some (.int .i64 v)) (by kernel_rfl) (by kernel_rfl) (by kernel_rfl) (fun _ _ _ _ _ h => h) ⟨hI.reads, p1, p2, c1⟩ ?_
    repeat (apply ord_take rfl (by rfl) (by rfl); (focus (intro w hSw; (try dsimp only at hSw); go_simp; (try with_reducible rfl))); (try simp only [Act.put, List.setIfInBounds_toArray, List.set_cons_zero, List.set_cons_succ]))
    have hwz := hI.below.size
    refine ord_do rfl (by rfl) (by rfl) (fun K hK => ?_)
    go_simp
    have hJ := hI.drew.alloc (by simp; omega) (.cells #[.int .i64 y] 2)
    refine hK.out _ _ (fun _ => ⟨hJ.reads, HR.out _ hJ.below⟩) ?_
    (try simp only [Act.put, List.setIfInBounds_toArray, List.set_cons_zero, List.set_cons_succ])
    clear hK K
    refine ord_do rfl (by rfl) (by rfl) (fun K hK => ?_)
    refine wp_push _ _ _ (by rfl) W.heap.size vv xs (by rfl) hJ.vals _ wr.heap.size _ (by rfl) (Blk.new _ _ _) (by rw [hL.out]; omega) (by simp; omega) (by simp) ?_
    intro g2 cap w2 hP
    have o2 := hJ.pushed hP
    have hK2 := hJ.below.trans (hP.below hJ.vals (by simp; omega))
    refine hK.out _ _ (fun _ => ⟨⟨o2.cell 0, o2.cell 1, o2.cell 2⟩, HR.out _ hK2⟩) ?_
    (try simp only [Act.put, List.setIfInBounds_toArray, List.set_cons_zero, List.set_cons_succ])
    clear hK K
    refine ord_do rfl (by rfl) (by rfl) (fun K hK => ?_)
    go_simp
    refine hK.out _ _ (fun h => absurd h (by omega)) ?_
    (try simp only [Act.put, List.setIfInBounds_toArray, List.set_cons_zero, List.set_cons_succ])
    clear hK K
    have c2' := o2.cell 2
    have f2' := o2.frozen 2
    refine ord_do rfl (by rfl) (by rfl) (fun K hK => ?_)
    go_simp
    refine hK.out _ _ (fun h => absurd h (by omega)) ?_
    (try simp only [Act.put, List.setIfInBounds_toArray, List.set_cons_zero, List.set_cons_succ])
    clear hK K
    refine ord_nil ?_
    clear t1 t2 p0 p1 p2
    go_wp2
    go_roundw
    case rel => exact ⟨k + 1, _, by omega, by go_num, by rw [hsn.out, hX.out]; exact hJ.step hP (by simp; omega) (by have := hRs.out; omega) (by omega) (hI.ordsNe (by omega))⟩
    case measure => simp [intOf]; omega
   ·obtain ⟨A2, c2, rfl⟩ := hI.vals.val
    obtain ⟨o0, o1, o2⟩ := hI.reads
    have hres := hI.res
    have r0 := hres.cell 0
    have r1 := hres.cell 1
    have r2 := hres.cell 2
    have f0 := hres.frozen 0
    have f1 := hres.frozen 1
    have f2 := hres.frozen 2
    have hTk := hide (show negL D vs = xs by rw [← hX.out, show k = vs.length by omega, List.take_length])
    go_wp2
    have hb3 := put3_blk (x := .slice Av os.length cv) (y := .int .i64 D) (z := .slice A2 xs.length c2) hres
    have q0 := hb3.cell 0
    have q1 := hb3.cell 1
    have q2 := hb3.cell 2
    unfold put3 at q0 q1 q2
    refine bodyPost_ret (v := .agg #[.slice Av os.length cv, .int .i64 D, .slice A2 xs.length c2]) (by simp [results, Tryz.results80, go_sem, q0, q1, q2]) rfl ?_
    rw [hTk.out]
    exact (hI.weak hbW (Nat.le_of_lt hszW)).done1 (by omega)
 ·skip
  (refine ot_do rfl (by rfl) (by rfl) (fun K hK => ?_); go_simp; obtain ⟨wa, g, hg, hwa, hBa, hsub, bO, hgB⟩ := be_alloc hBe 26 #[.slice none 0 0, .int .i64 0, .slice none 0 0]; rw [hwa, hg]; clear hwa hg; (try replace hO := hO.below hsub); clear hBe hsub; have hBe := hBa; clear hBa; refine hK.out _ _ (fun _ => hBe) ?_; (try simp only [Act.put, List.setIfInBounds_toArray, List.set_cons_zero, List.set_cons_succ]); clear hK K)
  repeat (first | (apply ot_tk rfl (by rfl) (by rfl) (by rfl); (focus (intro wx hSw; have r0 := (hSw.cell (p := ⟨w.heap.size, 0, none⟩) hszW).trans q0; have r1 := (hSw.cell (p := ⟨w.heap.size, 1, none⟩) hszW).trans q1; have r2 := (hSw.cell (p := ⟨w.heap.size, 2, none⟩) hszW).trans q2; go_simp; (try with_reducible rfl))); (try simp only [Act.put, List.setIfInBounds_toArray, List.set_cons_zero, List.set_cons_succ])) | (apply ot_skip rfl (by rfl) (by rfl) (fun _ => hBe); (try simp only [Act.put, List.setIfInBounds_toArray, List.set_cons_zero, List.set_cons_succ])))
  (refine ot_do rfl (by rfl) (by rfl) (fun K hK => ?_); go_simp; refine (l01Own_any _ _ _ _ _ _ (hs.below (hBe.mono (Nat.le_of_lt hszW))) (by have := hBe.size; omega) (by omega)).mono ?_; rintro e wn ⟨v, rfl, hO, hb2⟩; obtain ⟨Av, cv, rfl⟩ := hO.val; (try replace bO := bO.all hb2); replace hO := hO.less (show W.heap.size ≤ _ from hBe.size); replace hBe := hBe.trans (hb2.mono hBe.size); clear hb2; refine hK.out _ _ (fun _ => hBe) ?_; (try simp only [Act.put, List.setIfInBounds_toArray, List.set_cons_zero, List.set_cons_succ]); clear hK K)
  repeat (first | (apply ot_tk rfl (by rfl) (by rfl) (by rfl); (focus (intro wx hSw; have r0 := (hSw.cell (p := ⟨w.heap.size, 0, none⟩) hszW).trans q0; have r1 := (hSw.cell (p := ⟨w.heap.size, 1, none⟩) hszW).trans q1; have r2 := (hSw.cell (p := ⟨w.heap.size, 2, none⟩) hszW).trans q2; go_simp; (try with_reducible rfl))); (try simp only [Act.put, List.setIfInBounds_toArray, List.set_cons_zero, List.set_cons_succ])) | (apply ot_skip rfl (by rfl) (by rfl) (fun _ => hBe); (try simp only [Act.put, List.setIfInBounds_toArray, List.set_cons_zero, List.set_cons_succ])))
  have r0 := bO.cell 0
  have r1 := bO.cell 1
  have r2 := bO.cell 2
  have f0 := bO.frozen 0
  have f1 := bO.frozen 1
  have f2 := bO.frozen 2
  have hI : MetIn W W.heap.size (w.heap.size + 1) g (.slice Av os.length cv) os D (.slice none 0 0) [] (put3 _ g (.slice Av os.length cv) (.int .i64 D) (.slice none 0 0)) := ⟨put3_far (bR.all hBe) (by have := hsW.out; omega), put3_own bO (by decide) hO, put3_blk bO, Ow.nil _ _, fun b hb => by simp [Value.ownBlock], put3_below hBe hgB⟩
  refine ot_do rfl (by rfl) (by rfl) (fun K hK => ?_)
  go_simp
  refine hK.out _ _ (fun h => absurd h (by omega)) ?_
  (try simp only [Act.put, List.setIfInBounds_toArray, List.set_cons_zero, List.set_cons_succ])
  clear hK K
  refine ot_nil ?_
  clear r0 r1 r2 f0 f1 f2 bO hO
  have hRs := hide (show w.heap.size + 1 < g by have := hsW.out; omega)
  have hR0 := hide (show negL D (vs.take 0) = [] from rfl)
  go_wp2_with fail
  go_loopw [4] (fun x wr => ∃ (k : Nat) (vv : Value), k ≤ vs.length ∧ x = .int .i64 k ∧ MetIn W W.heap.size (w.heap.size + 1) g (.slice Av os.length cv) os D vv (negL D (vs.take k)) wr) (fun x _ => vs.length - (intOf x).toNat)
  case atStart => exact ⟨0, _, by omega, rfl, by rw [hR0.out]; exact hI⟩
  case round =>
   clear hI hBe
   obtain ⟨k, vv, hk, rfl, hI⟩ := hrel
   obtain ⟨xs, hxs⟩ : ∃ xs, negL D (vs.take k) = xs := ⟨_, rfl⟩
   have hlen : xs.length = k := by rw [← hxs, negL_len, List.length_take]; omega
   rw [hxs] at hI
   have hX := hide hxs
   have hL := hide hlen
   clear hxs hlen
   have hsz := hI.out.lt
   have p0 := (hI.below.cell (p := ⟨w.heap.size, 0, none⟩) hszW).trans q0
   have p1 := (hI.below.cell (p := ⟨w.heap.size, 1, none⟩) hszW).trans q1
   have p2 := (hI.below.cell (p := ⟨w.heap.size, 2, none⟩) hszW).trans q2
   by_cases hlt : k < vs.length
   ·obtain ⟨b, off, rfl, hb, hc⟩ := hs'.at_ (by omega)
    have cw := hc k hlt
    have c1 := (hI.below.cell (p := ⟨b, off + k, none⟩) (by show b < W.heap.size; omega)).trans cw
    clear hc
    have hv := hok.rng _ (gi_mem hlt)
    have hsn := hide (negL_snoc D hlt)
    obtain ⟨v, ev⟩ : ∃ v, gi vs k = v := ⟨_, rfl⟩
    rw [ev] at c1 cw hv hsn
    clear ev
    have i0 : 0 ≤ (k : Int) := by omega
    have i1 : (k : Int) < (vs.length : Int) := by omega
    have t1 : IntKind.i64.wrap (D - v) = D - v := wrap_in (by omega) (by omega)
    have t2 : (D - v).tmod D = (-v) % D := by rw [Int.tmod_eq_emod_of_nonneg (by omega), show D - v = -v + D by omega, Int.add_emod_right]
    have t3 : ¬ D = 0 := by omega
    obtain ⟨y, hy⟩ : ∃ y, (-v) % D = y := ⟨_, rfl⟩
    rw [hy] at t2 hsn
    clear hy
    have HR := hide (show ∀ wx, Below W.heap.size W wx → wx.cell? ⟨w.heap.size, 1, none⟩ = some (.int .i64 D) ∧ wx.cell? ⟨w.heap.size, 2, none⟩ = some (.slice (some ⟨b, off, none⟩) vs.length c') ∧ wx.cell? ⟨b, off + k, none⟩ = some (.int .i64 v) from fun wx hwx => ⟨(hwx.cell (p := ⟨w.heap.size, 1, none⟩) hszW).trans q1, (hwx.cell (p := ⟨w.heap.size, 2, none⟩) hszW).trans q2, (hwx.cell (p := ⟨b, off + k, none⟩) (by show b < W.heap.size; omega)).trans cw⟩)
    clear cw
    go_wp2_with fail
    refine wp_region_ord [0, 1, 2, 3, 4, 5, 6, 7, 8, 9, 10, 11, 12, 13, 14, 15, 16] 15 (fun w' => (w'.cell? ⟨g, 0, none⟩ = some (.slice Av os.length cv) ∧ w'.cell? ⟨g, 1, none⟩ = some (.int .i64 D) ∧ w'.cell? ⟨g, 2, none⟩ = some vv) ∧ w'.cell? ⟨w.heap.size, 1, none⟩ = some (.int .i64 D) ∧ w'.cell? ⟨w.heap.size, 2, none⟩ = some (.slice (some ⟨b, off, none⟩) vs.length c') ∧ w'.cell? ⟨b, off + k, none⟩ = some (.int .i64 v)) (by kernel_rfl) (by kernel_rfl) (by kernel_rfl) (fun _ _ _ _ _ h => h) ⟨hI.reads, p1, p2, c1⟩ ?_
    repeat (apply ord_take rfl (by rfl) (by rfl); (focus (intro w hSw; (try dsimp only at hSw); go_simp; (try with_reducible rfl))); (try simp only [Act.put, List.setIfInBounds_toArray, List.set_cons_zero, List.set_cons_succ]))
    have hwz := hI.below.size
    refine ord_do rfl (by rfl) (by rfl) (fun K hK => ?_)
    go_simp
    have hJ := hI.drew.alloc (by simp; omega) (.cells #[.int .i64 y] 2)
    refine hK.out _ _ (fun _ => ⟨hJ.reads, HR.out _ hJ.below⟩) ?_
    (try simp only [Act.put, List.setIfInBounds_toArray, List.set_cons_zero, List.set_cons_succ])
    clear hK K
    refine ord_do rfl (by rfl) (by rfl) (fun K hK => ?_)
    refine wp_push _ _ _ (by rfl) W.heap.size vv xs (by rfl) hJ.vals _ wr.heap.size _ (by rfl) (Blk.new _ _ _) (by rw [hL.out]; omega) (by simp; omega) (by simp) ?_
    intro g2 cap w2 hP
    have o2 := hJ.pushed hP
    have hK2 := hJ.below.trans (hP.below hJ.vals (by simp; omega))
    refine hK.out _ _ (fun _ => ⟨⟨o2.cell 0, o2.cell 1, o2.cell 2⟩, HR.out _ hK2⟩) ?_
    (try simp only [Act.put, List.setIfInBounds_toArray, List.set_cons_zero, List.set_cons_succ])
    clear hK K
    refine ord_do rfl (by rfl) (by rfl) (fun K hK => ?_)
    go_simp
    refine hK.out _ _ (fun h => absurd h (by omega)) ?_
    (try simp only [Act.put, List.setIfInBounds_toArray, List.set_cons_zero, List.set_cons_succ])
    clear hK K
    have c2' := o2.cell 2
    have f2' := o2.frozen 2
    refine ord_do rfl (by rfl) (by rfl) (fun K hK => ?_)
    go_simp
    refine hK.out _ _ (fun h => absurd h (by omega)) ?_
    (try simp only [Act.put, List.setIfInBounds_toArray, List.set_cons_zero, List.set_cons_succ])
    clear hK K
    refine ord_nil ?_
    clear t1 t2 p0 p1 p2
    go_wp2
    go_roundw
    case rel => exact ⟨k + 1, _, by omega, by go_num, by rw [hsn.out, hX.out]; exact hJ.step hP (by simp; omega) (by have := hRs.out; omega) (by omega) (hI.ordsNe (by omega))⟩
    case measure => simp [intOf]; omega
   ·obtain ⟨A2, c2, rfl⟩ := hI.vals.val
    obtain ⟨o0, o1, o2⟩ := hI.reads
    have hres := hI.res
    have r0 := hres.cell 0
    have r1 := hres.cell 1
    have r2 := hres.cell 2
    have f0 := hres.frozen 0
    have f1 := hres.frozen 1
    have f2 := hres.frozen 2
    have hTk := hide (show negL D vs = xs by rw [← hX.out, show k = vs.length by omega, List.take_length])
    go_wp2
    have hb3 := put3_blk (x := .slice Av os.length cv) (y := .int .i64 D) (z := .slice A2 xs.length c2) hres
    have q0 := hb3.cell 0
    have q1 := hb3.cell 1
    have q2 := hb3.cell 2
    unfold put3 at q0 q1 q2
    refine bodyPost_ret (v := .agg #[.slice Av os.length cv, .int .i64 D, .slice A2 xs.length c2]) (by simp [results, Tryz.results80, go_sem, q0, q1, q2]) rfl ?_
    rw [hTk.out]
    exact (hI.weak hbW (Nat.le_of_lt hszW)).done1 (by omega)

noncomputable def gIf (os : List Int) (D : Int) (vs : List Int) (xs : List Int) : List Int := if isM os D vs = true then xs else []
noncomputable def gIfI (os : List Int) (D : Int) (vs : List Int) (x : Int) : Int := if isM os D vs = true then x else 0
section
variable {os vs : List Int} {D : Int}
theorem gIf_t (h : isM os D vs = true) (xs : List Int) : gIf os D vs xs = xs := by unfold gIf; rw [if_pos h]
theorem gIf_f (h : isM os D vs = false) (xs : List Int) : gIf os D vs xs = [] := by unfold gIf; rw [if_neg (by rw [h]; exact Bool.false_ne_true)]
theorem gIfI_t (h : isM os D vs = true) (x : Int) : gIfI os D vs x = x := by unfold gIfI; rw [if_pos h]
theorem gIfI_f (h : isM os D vs = false) (x : Int) : gIfI os D vs x = 0 := by unfold gIfI; rw [if_neg (by rw [h]; exact Bool.false_ne_true)]
theorem codeM_t (h : isM os D vs = true) : codeM os D vs = 0 := by unfold codeM; rw [if_pos h]
theorem codeM_f (h : isM os D vs = false) : codeM os D vs = 1 := by unfold codeM; rw [if_neg (by rw [h]; exact Bool.false_ne_true)]
end

set_option maxHeartbeats 4000000 in
theorem impl_Negm_any (w : World) (A : Option Addr) (n c : Nat) (os : List Int) (D : Int) (A' : Option Addr) (n' c' : Nat) (vs : List Int) (h : Sl w w.heap.size A n c os) (h' : Sl w w.heap.size A' n' c' vs) (hn : n ≤ 1048576) (hn' : n' ≤ 1048576) :
  Calls Tryz.prog 78 #[.agg #[.slice A n c, .int .i64 D, .slice A' n' c']] w (MkM w (gIf os D vs os) (gIfI os D vs D) (gIf os D vs (negL D vs)) (codeM os D vs)) := by
 obtain rfl := h'.len
 obtain rfl := h.len
 cases hm : isM os D vs with
 | false =>
       rw [gIf_f hm, gIf_f hm, gIfI_f hm, codeM_f hm]
       go_enter Tryz.func78, Tryz.ntmps78
       go_wp2_with fail
       obtain ⟨W, hW⟩ : ∃ W, (w.alloc (.cells #[.slice A os.length c, .int .i64 D, .slice A' vs.length c'] 26)).alloc (.cells #[.slice none 0 0, .int .i64 0, .slice none 0 0] 26) = W := ⟨_, rfl⟩
       have hbW : Below w.heap.size w W := by rw [← hW]; exact (by repeat (first | assumption | exact Below.refl _ _ | apply below_drewN | apply Below.drew | apply Below.alloc | apply Below.setCell | omega | (focus (simp; done)) | (focus (simp; omega))))
       have hszW : w.heap.size < W.heap.size := by rw [← hW]; simp; omega
       have hsW := hide (show W.heap.size = w.heap.size + 2 by rw [← hW]; simp)
       have bM : Blk W w.heap.size 26 #[.slice A os.length c, .int .i64 D, .slice A' vs.length c'] := by rw [← hW]; exact (Blk.new _ _ _).alloc _
       have bR : Blk W (w.heap.size + 1) 26 #[.slice none 0 0, .int .i64 0, .slice none 0 0] := by rw [← hW]; exact Blk.new' _ _ _ _ (by simp)
       have q0 := bM.cell 0
       have q1 := bM.cell 1
       have q2 := bM.cell 2
       rw [hW]
       clear hW
       have hs := (h.below hbW).more (Nat.le_of_lt hszW)
       have hs' := (h'.below hbW).more (Nat.le_of_lt hszW)
       go_wp2_with fail
       refine (implIs_v false _ _ _ _ _ _ _ _ _ _ hs hs' hn hn' hm).mono ?_
       rintro e w2 ⟨rfl, hb2⟩
       have hres := bR.all hb2
       have r0 := hres.cell 0
       have r1 := hres.cell 1
       have r2 := hres.cell 2
       have f0 := hres.frozen 0
       have f1 := hres.frozen 1
       have f2 := hres.frozen 2
       go_wp2
       have hb3 := put3_blk (x := .slice none 0 0) (y := .int .i64 0) (z := .slice none 0 0) hres
       have q0 := hb3.cell 0
       have q1 := hb3.cell 1
       have q2 := hb3.cell 2
       unfold put3 at q0 q1 q2
       refine bodyPost_ret (v := .tuple #[.agg #[.slice none 0 0, .int .i64 0, .slice none 0 0], .int .i64 1]) (by simp [results, Tryz.results78, go_sem, q0, q1, q2]) rfl ?_
       exact mkM_of_no ⟨rfl, put3_below (hbW.trans (hb2.mono (Nat.le_of_lt hszW))) (Nat.le_succ _)⟩
 | true =>
  have hM := isM_iff.1 hm
  rw [gIf_t hm, gIf_t hm, gIfI_t hm, codeM_t hm]
  have hok := hM.ok
  have hn16 := hok.lt
  have hn4 := hok.g.l4
  have d1 := hok.d1
  have d2 := hok.d2
  go_enter Tryz.func78, Tryz.ntmps78
  go_wp2_with fail
  obtain ⟨W, hW⟩ : ∃ W, (w.alloc (.cells #[.slice A os.length c, .int .i64 D, .slice A' vs.length c'] 26)).alloc (.cells #[.slice none 0 0, .int .i64 0, .slice none 0 0] 26) = W := ⟨_, rfl⟩
  have hbW : Below w.heap.size w W := by rw [← hW]; exact (by repeat (first | assumption | exact Below.refl _ _ | apply below_drewN | apply Below.drew | apply Below.alloc | apply Below.setCell | omega | (focus (simp; done)) | (focus (simp; omega))))
  have hszW : w.heap.size < W.heap.size := by rw [← hW]; simp; omega
  have hsW := hide (show W.heap.size = w.heap.size + 2 by rw [← hW]; simp)
  have bM : Blk W w.heap.size 26 #[.slice A os.length c, .int .i64 D, .slice A' vs.length c'] := by rw [← hW]; exact (Blk.new _ _ _).alloc _
  have bR : Blk W (w.heap.size + 1) 26 #[.slice none 0 0, .int .i64 0, .slice none 0 0] := by rw [← hW]; exact Blk.new' _ _ _ _ (by simp)
  have q0 := bM.cell 0
  have q1 := bM.cell 1
  have q2 := bM.cell 2
  rw [hW]
  clear hW
  have hs := (h.below hbW).more (Nat.le_of_lt hszW)
  have hs' := (h'.below hbW).more (Nat.le_of_lt hszW)
  go_wp2_with fail
  refine (implIs_v true _ _ _ _ _ _ _ _ _ _ hs hs' hn hn' hm).mono ?_
  rintro e w2 ⟨rfl, hb2⟩
  replace hb2 : Below W.heap.size W w2 := hb2
  go_wp2_with fail
  refine wp_region_bt (.one 0 (.one 1 (.one 3 (.one 4 (.two 2 (.one 5 (.one 6 (.one 7 .nil))) 6 (.one 2 (.one 5 (.one 7 .nil)))))))) 7 W.heap.size W (by kernel_rfl) (by kernel_rfl) (by kernel_rfl) (fun _ _ _ _ _ h => h) hb2 (fun wd hBe => ?_)
  repeat (first | (apply ot_tk rfl (by rfl) (by rfl) (by rfl); (focus (intro wx hSw; have r0 := (hSw.cell (p := ⟨w.heap.size, 0, none⟩) hszW).trans q0; have r1 := (hSw.cell (p := ⟨w.heap.size, 1, none⟩) hszW).trans q1; have r2 := (hSw.cell (p := ⟨w.heap.size, 2, none⟩) hszW).trans q2; go_simp; (try with_reducible rfl))); (try simp only [Act.put, List.setIfInBounds_toArray, List.set_cons_zero, List.set_cons_succ])) | (apply ot_skip rfl (by rfl) (by rfl) (fun _ => hBe); (try simp only [Act.put, List.setIfInBounds_toArray, List.set_cons_zero, List.set_cons_succ])))
  refine ot_two ?_ ?_
  ·skip
   (refine ot_do rfl (by rfl) (by rfl) (fun K hK => ?_); go_simp; refine (clone_any _ _ _ _ _ _ (hs.below hBe) (by have := hBe.size; omega) (by omega)).mono ?_; rintro e wn ⟨v, rfl, hO, hb2⟩; obtain ⟨Av, cv, rfl⟩ := hO.val; (try replace bO := bO.all hb2); replace hO := hO.less (show W.heap.size ≤ _ from hBe.size); replace hBe := hBe.trans (hb2.mono hBe.size); clear hb2; refine hK.out _ _ (fun _ => hBe) ?_; (try simp only [Act.put, List.setIfInBounds_toArray, List.set_cons_zero, List.set_cons_succ]); clear hK K)
   repeat (first | (apply ot_tk rfl (by rfl) (by rfl) (by rfl); (focus (intro wx hSw; have r0 := (hSw.cell (p := ⟨w.heap.size, 0, none⟩) hszW).trans q0; have r1 := (hSw.cell (p := ⟨w.heap.size, 1, none⟩) hszW).trans q1; have r2 := (hSw.cell (p := ⟨w.heap.size, 2, none⟩) hszW).trans q2; go_simp; (try with_reducible rfl))); (try simp only [Act.put, List.setIfInBounds_toArray, List.set_cons_zero, List.set_cons_succ])) | (apply ot_skip rfl (by rfl) (by rfl) (fun _ => hBe); (try simp only [Act.put, List.setIfInBounds_toArray, List.set_cons_zero, List.set_cons_succ])))
   (refine ot_do rfl (by rfl) (by rfl) (fun K hK => ?_); go_simp; obtain ⟨wa, g, hg, hwa, hBa, hsub, bO, hgB⟩ := be_alloc hBe 26 #[.slice none 0 0, .int .i64 0, .slice none 0 0]; rw [hwa, hg]; clear hwa hg; (try replace hO := hO.below hsub); clear hBe hsub; have hBe := hBa; clear hBa; refine hK.out _ _ (fun _ => hBe) ?_; (try simp only [Act.put, List.setIfInBounds_toArray, List.set_cons_zero, List.set_cons_succ]); clear hK K)
   have r0 := bO.cell 0
   have r1 := bO.cell 1
   have r2 := bO.cell 2
   have f0 := bO.frozen 0
   have f1 := bO.frozen 1
   have f2 := bO.frozen 2
   have hI : MetIn W W.heap.size (w.heap.size + 1) g (.slice Av os.length cv) os D (.slice none 0 0) [] (put3 _ g (.slice Av os.length cv) (.int .i64 D) (.slice none 0 0)) := ⟨put3_far (bR.all hBe) (by have := hsW.out; omega), put3_own bO (by decide) hO, put3_blk bO, Ow.nil _ _, fun b hb => by simp [Value.ownBlock], put3_below hBe hgB⟩
   refine ot_do rfl (by rfl) (by rfl) (fun K hK => ?_)
   go_simp
   refine hK.out _ _ (fun h => absurd h (by omega)) ?_
   (try simp only [Act.put, List.setIfInBounds_toArray, List.set_cons_zero, List.set_cons_succ])
   clear hK K
   refine ot_nil ?_
   clear r0 r1 r2 f0 f1 f2 bO hO
   have hRs := hide (show w.heap.size + 1 < g by have := hsW.out; omega)
   have hR0 := hide (show negL D (vs.take 0) = [] from rfl)
   obtain ⟨W3, hW3⟩ : ∃ W3, put3 wa g (.slice Av os.length cv) (.int .i64 D) (.slice none 0 0) = W3 := ⟨_, rfl⟩
   unfold put3 at hW3
   unfold put3 at hI
   rw [hW3] at hI ⊢
   clear hW3
   have p0 := (hI.below.cell (p := ⟨w.heap.size, 0, none⟩) hszW).trans q0
   have p1 := (hI.below.cell (p := ⟨w.heap.size, 1, none⟩) hszW).trans q1
   have p2 := (hI.below.cell (p := ⟨w.heap.size, 2, none⟩) hszW).trans q2
   go_wp2_with fail
   clear p0 p1 p2
   go_loopw [20] (fun x wr => ∃ (k : Nat) (vv : Value), k ≤ vs.length ∧ x = .int .i64 k ∧ MetIn W W.heap.size (w.heap.size + 1) g (.slice Av os.length cv) os D vv (negL D (vs.take k)) wr) (fun x _ => vs.length - (intOf x).toNat)
   case atStart => exact ⟨0, _, by omega, rfl, by rw [hR0.out]; exact hI⟩
   case round =>
    clear hI hBe
    obtain ⟨k, vv, hk, rfl, hI⟩ := hrel
    obtain ⟨xs, hxs⟩ : ∃ xs, negL D (vs.take k) = xs := ⟨_, rfl⟩
    have hlen : xs.length = k := by rw [← hxs, negL_len, List.length_take]; omega
    rw [hxs] at hI
    have hX := hide hxs
    have hL := hide hlen
    clear hxs hlen
    have hsz := hI.out.lt
    by_cases hlt : k < vs.length
    ·obtain ⟨b, off, rfl, hb, hc⟩ := hs'.at_ (by omega)
     have c1 := (hI.below.cell (p := ⟨b, off + k, none⟩) (by show b < W.heap.size; omega)).trans (hc k hlt)
     clear hc
     have hv := hok.rng _ (gi_mem hlt)
     have hsn := hide (negL_snoc D hlt)
     obtain ⟨v, ev⟩ : ∃ v, gi vs k = v := ⟨_, rfl⟩
     rw [ev] at c1 hv hsn
     clear ev
     have t1 : IntKind.i64.wrap (-v) = -v := wrap_in (by omega) (by omega)
     obtain ⟨u, hu⟩ : ∃ u, -v = u := ⟨_, rfl⟩
     rw [hu] at t1 hsn
     obtain ⟨y, hy⟩ : ∃ y, u % D = y := ⟨_, rfl⟩
     rw [hy] at hsn
     have hHY := hide hy
     have HR := hide (show ∀ wx, Below W.heap.size W wx → wx.cell? ⟨w.heap.size, 0, none⟩ = some (.slice A os.length c) ∧ wx.cell? ⟨w.heap.size, 1, none⟩ = some (.int .i64 D) ∧ wx.cell? ⟨w.heap.size, 2, none⟩ = some (.slice (some ⟨b, off, none⟩) vs.length c') from fun wx hwx => ⟨(hwx.cell (p := ⟨w.heap.size, 0, none⟩) hszW).trans q0, (hwx.cell (p := ⟨w.heap.size, 1, none⟩) hszW).trans q1, (hwx.cell (p := ⟨w.heap.size, 2, none⟩) hszW).trans q2⟩)
     clear hy
     go_wp2_with fail
     refine wp_region_ord [0, 1, 2, 3, 4, 5, 6, 7, 8, 9] 8 (fun w' => (w'.cell? ⟨g, 0, none⟩ = some (.slice Av os.length cv) ∧ w'.cell? ⟨g, 1, none⟩ = some (.int .i64 D) ∧ w'.cell? ⟨g, 2, none⟩ = some vv) ∧ w'.cell? ⟨w.heap.size, 0, none⟩ = some (.slice A os.length c) ∧ w'.cell? ⟨w.heap.size, 1, none⟩ = some (.int .i64 D) ∧ w'.cell? ⟨w.heap.size, 2, none⟩ = some (.slice (some ⟨b, off, none⟩) vs.length c')) (by kernel_rfl) (by kernel_rfl) (by kernel_rfl) (fun _ _ _ _ _ h => h) ⟨hI.reads, HR.out _ hI.below.drew⟩ ?_
     repeat (apply ord_take rfl (by rfl) (by rfl); (focus (intro w hSw; (try dsimp only at hSw); go_simp; (try with_reducible rfl))); (try simp only [Act.put, List.setIfInBounds_toArray, List.set_cons_zero, List.set_cons_succ]))
     have hwz := hI.below.size
     refine ord_do rfl (by rfl) (by rfl) (fun K hK => ?_)
     go_simp
     refine (rest_any _ _ _ _ _ (by omega) (by omega)).mono ?_
     rw [hHY.out]
     rintro e w1 ⟨rfl, hr1⟩
     have hsz1 := hr1.size
     simp only [heap_drew] at hr1 hsz1
     have hI1 := hI.drew.all hr1 (by simp; omega)
     refine hK.out _ _ (fun _ => ⟨hI1.reads, HR.out _ hI1.below⟩) ?_
     (try simp only [Act.put, List.setIfInBounds_toArray, List.set_cons_zero, List.set_cons_succ])
     clear hK K
     refine ord_do rfl (by rfl) (by rfl) (fun K hK => ?_)
     go_simp
     have hJ := hI1.alloc (by omega) (.cells #[.int .i64 y] 2)
     refine hK.out _ _ (fun _ => ⟨hJ.reads, HR.out _ hJ.below⟩) ?_
     (try simp only [Act.put, List.setIfInBounds_toArray, List.set_cons_zero, List.set_cons_succ])
     clear hK K
     refine ord_do rfl (by rfl) (by rfl) (fun K hK => ?_)
     refine wp_push _ _ _ (by rfl) W.heap.size vv xs (by rfl) hJ.vals _ w1.heap.size _ (by rfl) (Blk.new _ _ _) (by rw [hL.out]; omega) (by simp; omega) (by simp) ?_
     intro g2 cap w2 hP
     have o2 := hJ.pushed hP
     have hK2 := hJ.below.trans (hP.below hJ.vals (by simp; omega))
     refine hK.out _ _ (fun _ => ⟨⟨o2.cell 0, o2.cell 1, o2.cell 2⟩, HR.out _ hK2⟩) ?_
     (try simp only [Act.put, List.setIfInBounds_toArray, List.set_cons_zero, List.set_cons_succ])
     clear hK K
     refine ord_do rfl (by rfl) (by rfl) (fun K hK => ?_)
     go_simp
     refine hK.out _ _ (fun h => absurd h (by omega)) ?_
     (try simp only [Act.put, List.setIfInBounds_toArray, List.set_cons_zero, List.set_cons_succ])
     clear hK K
     have c2' := o2.cell 2
     have f2' := o2.frozen 2
     refine ord_do rfl (by rfl) (by rfl) (fun K hK => ?_)
     go_simp
     refine hK.out _ _ (fun h => absurd h (by omega)) ?_
     (try simp only [Act.put, List.setIfInBounds_toArray, List.set_cons_zero, List.set_cons_succ])
     clear hK K
     refine ord_nil ?_
     clear t1
     go_wp2
     go_roundw
     case rel => exact ⟨k + 1, _, by omega, by go_num, by rw [hsn.out, hX.out]; exact hJ.step hP (by simp; omega) (by have := hRs.out; omega) (by omega) (hI1.ordsNe (by omega))⟩
     case measure => simp [intOf]; omega
    ·obtain ⟨A2, c2, rfl⟩ := hI.vals.val
     obtain ⟨o0, o1, o2⟩ := hI.reads
     have hres := hI.res
     have r0 := hres.cell 0
     have r1 := hres.cell 1
     have r2 := hres.cell 2
     have f0 := hres.frozen 0
     have f1 := hres.frozen 1
     have f2 := hres.frozen 2
     have hTk := hide (show negL D vs = xs by rw [← hX.out, show k = vs.length by omega, List.take_length])
     go_wp2
     have hb3 := put3_blk (x := .slice Av os.length cv) (y := .int .i64 D) (z := .slice A2 xs.length c2) hres
     have q0 := hb3.cell 0
     have q1 := hb3.cell 1
     have q2 := hb3.cell 2
     unfold put3 at q0 q1 q2
     refine bodyPost_ret (v := .tuple #[.agg #[.slice Av os.length cv, .int .i64 D, .slice A2 xs.length c2], .int .i64 0]) (by simp [results, Tryz.results78, go_sem, q0, q1, q2]) rfl ?_
     rw [hTk.out]
     exact (hI.weak hbW (Nat.le_of_lt hszW)).done (by omega)
  ·skip
   (refine ot_do rfl (by rfl) (by rfl) (fun K hK => ?_); go_simp; obtain ⟨wa, g, hg, hwa, hBa, hsub, bO, hgB⟩ := be_alloc hBe 26 #[.slice none 0 0, .int .i64 0, .slice none 0 0]; rw [hwa, hg]; clear hwa hg; (try replace hO := hO.below hsub); clear hBe hsub; have hBe := hBa; clear hBa; refine hK.out _ _ (fun _ => hBe) ?_; (try simp only [Act.put, List.setIfInBounds_toArray, List.set_cons_zero, List.set_cons_succ]); clear hK K)
   repeat (first | (apply ot_tk rfl (by rfl) (by rfl) (by rfl); (focus (intro wx hSw; have r0 := (hSw.cell (p := ⟨w.heap.size, 0, none⟩) hszW).trans q0; have r1 := (hSw.cell (p := ⟨w.heap.size, 1, none⟩) hszW).trans q1; have r2 := (hSw.cell (p := ⟨w.heap.size, 2, none⟩) hszW).trans q2; go_simp; (try with_reducible rfl))); (try simp only [Act.put, List.setIfInBounds_toArray, List.set_cons_zero, List.set_cons_succ])) | (apply ot_skip rfl (by rfl) (by rfl) (fun _ => hBe); (try simp only [Act.put, List.setIfInBounds_toArray, List.set_cons_zero, List.set_cons_succ])))
   (refine ot_do rfl (by rfl) (by rfl) (fun K hK => ?_); go_simp; refine (clone_any _ _ _ _ _ _ (hs.below hBe) (by have := hBe.size; omega) (by omega)).mono ?_; rintro e wn ⟨v, rfl, hO, hb2⟩; obtain ⟨Av, cv, rfl⟩ := hO.val; (try replace bO := bO.all hb2); replace hO := hO.less (show W.heap.size ≤ _ from hBe.size); replace hBe := hBe.trans (hb2.mono hBe.size); clear hb2; refine hK.out _ _ (fun _ => hBe) ?_; (try simp only [Act.put, List.setIfInBounds_toArray, List.set_cons_zero, List.set_cons_succ]); clear hK K)
   repeat (first | (apply ot_tk rfl (by rfl) (by rfl) (by rfl); (focus (intro wx hSw; have r0 := (hSw.cell (p := ⟨w.heap.size, 0, none⟩) hszW).trans q0; have r1 := (hSw.cell (p := ⟨w.heap.size, 1, none⟩) hszW).trans q1; have r2 := (hSw.cell (p := ⟨w.heap.size, 2, none⟩) hszW).trans q2; go_simp; (try with_reducible rfl))); (try simp only [Act.put, List.setIfInBounds_toArray, List.set_cons_zero, List.set_cons_succ])) | (apply ot_skip rfl (by rfl) (by rfl) (fun _ => hBe); (try simp only [Act.put, List.setIfInBounds_toArray, List.set_cons_zero, List.set_cons_succ])))
   have r0 := bO.cell 0
   have r1 := bO.cell 1
   have r2 := bO.cell 2
   have f0 := bO.frozen 0
   have f1 := bO.frozen 1
   have f2 := bO.frozen 2
   have hI : MetIn W W.heap.size (w.heap.size + 1) g (.slice Av os.length cv) os D (.slice none 0 0) [] (put3 _ g (.slice Av os.length cv) (.int .i64 D) (.slice none 0 0)) := ⟨put3_far (bR.all hBe) (by have := hsW.out; omega), put3_own bO (by decide) hO, put3_blk bO, Ow.nil _ _, fun b hb => by simp [Value.ownBlock], put3_below hBe hgB⟩
   refine ot_do rfl (by rfl) (by rfl) (fun K hK => ?_)
   go_simp
   refine hK.out _ _ (fun h => absurd h (by omega)) ?_
   (try simp only [Act.put, List.setIfInBounds_toArray, List.set_cons_zero, List.set_cons_succ])
   clear hK K
   refine ot_nil ?_
   clear r0 r1 r2 f0 f1 f2 bO hO
   have hRs := hide (show w.heap.size + 1 < g by have := hsW.out; omega)
   have hR0 := hide (show negL D (vs.take 0) = [] from rfl)
   obtain ⟨W3, hW3⟩ : ∃ W3, put3 wn g (.slice Av os.length cv) (.int .i64 D) (.slice none 0 0) = W3 := ⟨_, rfl⟩
   unfold put3 at hW3
   unfold put3 at hI
   rw [hW3] at hI ⊢
   clear hW3
   have p0 := (hI.below.cell (p := ⟨w.heap.size, 0, none⟩) hszW).trans q0
   have p1 := (hI.below.cell (p := ⟨w.heap.size, 1, none⟩) hszW).trans q1
   have p2 := (hI.below.cell (p := ⟨w.heap.size, 2, none⟩) hszW).trans q2
   go_wp2_with fail
   clear p0 p1 p2
   go_loopw [20] (fun x wr => ∃ (k : Nat) (vv : Value), k ≤ vs.length ∧ x = .int .i64 k ∧ MetIn W W.heap.size (w.heap.size + 1) g (.slice Av os.length cv) os D vv (negL D (vs.take k)) wr) (fun x _ => vs.length - (intOf x).toNat)
   case atStart => exact ⟨0, _, by omega, rfl, by rw [hR0.out]; exact hI⟩
   case round =>
    clear hI hBe
    obtain ⟨k, vv, hk, rfl, hI⟩ := hrel
    obtain ⟨xs, hxs⟩ : ∃ xs, negL D (vs.take k) = xs := ⟨_, rfl⟩
    have hlen : xs.length = k := by rw [← hxs, negL_len, List.length_take]; omega
    rw [hxs] at hI
    have hX := hide hxs
    have hL := hide hlen
    clear hxs hlen
    have hsz := hI.out.lt
    by_cases hlt : k < vs.length
    ·obtain ⟨b, off, rfl, hb, hc⟩ := hs'.at_ (by omega)
     have c1 := (hI.below.cell (p := ⟨b, off + k, none⟩) (by show b < W.heap.size; omega)).trans (hc k hlt)
     clear hc
     have hv := hok.rng _ (gi_mem hlt)
     have hsn := hide (negL_snoc D hlt)
     obtain ⟨v, ev⟩ : ∃ v, gi vs k = v := ⟨_, rfl⟩
     rw [ev] at c1 hv hsn
     clear ev
     have t1 : IntKind.i64.wrap (-v) = -v := wrap_in (by omega) (by omega)
     obtain ⟨u, hu⟩ : ∃ u, -v = u := ⟨_, rfl⟩
     rw [hu] at t1 hsn
     obtain ⟨y, hy⟩ : ∃ y, u % D = y := ⟨_, rfl⟩
     rw [hy] at hsn
     have hHY := hide hy
     have HR := hide (show ∀ wx, Below W.heap.size W wx → wx.cell? ⟨w.heap.size, 0, none⟩ = some (.slice A os.length c) ∧ wx.cell? ⟨w.heap.size, 1, none⟩ = some (.int .i64 D) ∧ wx.cell? ⟨w.heap.size, 2, none⟩ = some (.slice (some ⟨b, off, none⟩) vs.length c') from fun wx hwx => ⟨(hwx.cell (p := ⟨w.heap.size, 0, none⟩) hszW).trans q0, (hwx.cell (p := ⟨w.heap.size, 1, none⟩) hszW).trans q1, (hwx.cell (p := ⟨w.heap.size, 2, none⟩) hszW).trans q2⟩)
     clear hy
     go_wp2_with fail
     refine wp_region_ord [0, 1, 2, 3, 4, 5, 6, 7, 8, 9] 8 (fun w' => (w'.cell? ⟨g, 0, none⟩ = some (.slice Av os.length cv) ∧ w'.cell? ⟨g, 1, none⟩ = some (.int .i64 D) ∧ w'.cell? ⟨g, 2, none⟩ = some vv) ∧ w'.cell? ⟨w.heap.size, 0, none⟩ = some (.slice A os.length c) ∧ w'.cell? ⟨w.heap.size, 1, none⟩ = some (.int .i64 D) ∧ w'.cell? ⟨w.heap.size, 2, none⟩ = some (.slice (some ⟨b, off, none⟩) vs.length c')) (by kernel_rfl) (by kernel_rfl) (by kernel_rfl) (fun _ _ _ _ _ h => h) ⟨hI.reads, HR.out _ hI.below.drew⟩ ?_
     repeat (apply ord_take rfl (by rfl) (by rfl); (focus (intro w hSw; (try dsimp only at hSw); go_simp; (try with_reducible rfl))); (try simp only [Act.put, List.setIfInBounds_toArray, List.set_cons_zero, List.set_cons_succ]))
     have hwz := hI.below.size
     refine ord_do rfl (by rfl) (by rfl) (fun K hK => ?_)
     go_simp
     refine (rest_any _ _ _ _ _ (by omega) (by omega)).mono ?_
     rw [hHY.out]
     rintro e w1 ⟨rfl, hr1⟩
     have hsz1 := hr1.size
     simp only [heap_drew] at hr1 hsz1
     have hI1 := hI.drew.all hr1 (by simp; omega)
     refine hK.out _ _ (fun _ => ⟨hI1.reads, HR.out _ hI1.below⟩) ?_
     (try simp only [Act.put, List.setIfInBounds_toArray, List.set_cons_zero, List.set_cons_succ])
     clear hK K
     refine ord_do rfl (by rfl) (by rfl) (fun K hK => ?_)
     go_simp
     have hJ := hI1.alloc (by omega) (.cells #[.int .i64 y] 2)
     refine hK.out _ _ (fun _ => ⟨hJ.reads, HR.out _ hJ.below⟩) ?_
     (try simp only [Act.put, List.setIfInBounds_toArray, List.set_cons_zero, List.set_cons_succ])
     clear hK K
     refine ord_do rfl (by rfl) (by rfl) (fun K hK => ?_)
     refine wp_push _ _ _ (by rfl) W.heap.size vv xs (by rfl) hJ.vals _ w1.heap.size _ (by rfl) (Blk.new _ _ _) (by rw [hL.out]; omega) (by simp; omega) (by simp) ?_
     intro g2 cap w2 hP
     have o2 := hJ.pushed hP
     have hK2 := hJ.below.trans (hP.below hJ.vals (by simp; omega))
     refine hK.out _ _ (fun _ => ⟨⟨o2.cell 0, o2.cell 1, o2.cell 2⟩, HR.out _ hK2⟩) ?_
     (try simp only [Act.put, List.setIfInBounds_toArray, List.set_cons_zero, List.set_cons_succ])
     clear hK K
     refine ord_do rfl (by rfl) (by rfl) (fun K hK => ?_)
     go_simp
     refine hK.out _ _ (fun h => absurd h (by omega)) ?_
     (try simp only [Act.put, List.setIfInBounds_toArray, List.set_cons_zero, List.set_cons_succ])
     clear hK K
     have c2' := o2.cell 2
     have f2' := o2.frozen 2
     refine ord_do rfl (by rfl) (by rfl) (fun K hK => ?_)
     go_simp
     refine hK.out _ _ (fun h => absurd h (by omega)) ?_
     (try simp only [Act.put, List.setIfInBounds_toArray, List.set_cons_zero, List.set_cons_succ])
     clear hK K
     refine ord_nil ?_
     clear t1
     go_wp2
     go_roundw
     case rel => exact ⟨k + 1, _, by omega, by go_num, by rw [hsn.out, hX.out]; exact hJ.step hP (by simp; omega) (by have := hRs.out; omega) (by omega) (hI1.ordsNe (by omega))⟩
     case measure => simp [intOf]; omega
    ·obtain ⟨A2, c2, rfl⟩ := hI.vals.val
     obtain ⟨o0, o1, o2⟩ := hI.reads
     have hres := hI.res
     have r0 := hres.cell 0
     have r1 := hres.cell 1
     have r2 := hres.cell 2
     have f0 := hres.frozen 0
     have f1 := hres.frozen 1
     have f2 := hres.frozen 2
     have hTk := hide (show negL D vs = xs by rw [← hX.out, show k = vs.length by omega, List.take_length])
     go_wp2
     have hb3 := put3_blk (x := .slice Av os.length cv) (y := .int .i64 D) (z := .slice A2 xs.length c2) hres
     have q0 := hb3.cell 0
     have q1 := hb3.cell 1
     have q2 := hb3.cell 2
     unfold put3 at q0 q1 q2
     refine bodyPost_ret (v := .tuple #[.agg #[.slice Av os.length cv, .int .i64 D, .slice A2 xs.length c2], .int .i64 0]) (by simp [results, Tryz.results78, go_sem, q0, q1, q2]) rfl ?_
     rw [hTk.out]
     exact (hI.weak hbW (Nat.le_of_lt hszW)).done (by omega)
end Go.Proofs.YtbpihnpakolooaaGreatDoor
