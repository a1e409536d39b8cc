
/- The walk of impl.generators: a loop over slices.Backward that fills a list. -/
import Derived.Test.YtkekgipeagchcaaIM1
namespace Go.Proofs.Ytkekgipeagchcaa
open Go Go.RowKit Go.Shelf Grp
set_option linter.unusedSimpArgs false
set_option linter.unusedVariables false
attribute [local go_sem] Oper.semAt_some
/-- The generators. -/
def genL (zs : List Int) : List Int := (List.range zs.length).map fun i => prodL (zs.drop (i + 1))
theorem genL_len (zs : List Int) : (genL zs).length = zs.length := by simp [genL]
theorem genL_at {zs : List Int} {i : Nat} (h : i < zs.length) : gi (genL zs) i = prodL (zs.drop (i + 1)) := by
  unfold gi genL; rw [List.getD_eq_getElem?_getD, List.getElem?_map, List.getElem?_range h]; rfl
theorem prodL_drop {zs : List Int} (h : OkG zs) (j : Nat) : 1 ≤ prodL (zs.drop j) ∧ prodL (zs.drop j) ≤ 16 := by
  have e : prodL zs = prodL (zs.take j) * prodL (zs.drop j) := by rw [← prodL_append, List.take_append_drop]
  have h1 : 1 ≤ prodL (zs.take j) := prodL_pos fun m hm => h.pos m (List.mem_of_mem_take hm)
  have h2 : 1 ≤ prodL (zs.drop j) := prodL_pos fun m hm => h.pos m (List.mem_of_mem_drop hm)
  have h3 := h.p16
  have h4 : 1 * prodL (zs.drop j) ≤ prodL (zs.take j) * prodL (zs.drop j) := Int.mul_le_mul_of_nonneg_right h1 (by omega)
  omega
theorem prodL_at {zs : List Int} {j : Nat} (h : j < zs.length) : prodL (zs.drop j) = gi zs j * prodL (zs.drop (j + 1)) := by rw [drop_gi h]; rfl
def genT (zs : List Int) {n : Nat} (s : Array Value × Int) (j : {j : Nat // j < n}) : Array Value × Int := (s.1.setIfInBounds j.1 (.int .i64 s.2), IntKind.i64.wrap (s.2 * gi zs j.1))
def foldG (zs : List Int) {n : Nat} (cs : Array Value) (pre : List {j : Nat // j < n}) : Array Value × Int := pre.foldl (genT zs) (cs, 1)
theorem foldG_snoc (zs : List Int) {n : Nat} (cs : Array Value) (pre : List {j : Nat // j < n}) (j : {j : Nat // j < n}) : foldG zs cs (pre ++ [j]) = genT zs (foldG zs cs pre) j := by simp [foldG]
theorem foldG_done {zs : List Int} (hG : OkG zs) (cs : Array Value) (hcs : cs.size = zs.length) (h : 0 < zs.length) : ∀ k, k ≤ zs.length →
    FilledT (foldG zs cs (upTo (ixT zs.length h) k)).1 zs.length (zs.length - k) (genL zs) ∧ (foldG zs cs (upTo (ixT zs.length h) k)).2 = prodL (zs.drop (zs.length - k)) := by
  intro k
  induction k with
  | zero =>
    intro _
    refine ⟨⟨hcs, fun j hj hjn => absurd hj (by omega)⟩, ?_⟩
    rw [Nat.sub_zero, List.drop_length]; rfl
  | succ k ih =>
    intro hk
    obtain ⟨hF, hD⟩ := ih (by omega)
    rw [upTo_succ, foldG_snoc]
    obtain ⟨s, hs⟩ : ∃ s, foldG zs cs (upTo (ixT zs.length h) k) = s := ⟨_, rfl⟩
    rw [hs] at hF hD ⊢
    obtain ⟨j, hj⟩ : ∃ j, zs.length - (k + 1) = j := ⟨_, rfl⟩
    have hj1 : zs.length - k = j + 1 := by omega
    have hjl : j < zs.length := by omega
    have hjx : (ixT zs.length h k).1 = j := by show zs.length - 1 - k = j; omega
    rw [hj1] at hF hD
    rw [hj]
    unfold genT
    rw [hjx]
    have hp := prodL_drop hG j
    refine ⟨hF.set_ hjl (by rw [genL_at hjl, hD]), ?_⟩
    simp only
    rw [hD, prodL_at hjl, Int.mul_comm (prodL _)]
    rw [prodL_at hjl] at hp
    exact wrap_in (by omega) (by omega)
/-- Between two rounds. -/
structure GenI (w : World) (A : Option Addr) (n c : Nat) (zs : List Int) (cs0 : Array Value) (pre : List {j : Nat // j < n}) (W : World) : Prop where
  vo : Blk W w.heap.size 22 #[.slice A n c]
  vc : Blk W (w.heap.size + 1) 2 (foldG zs cs0 pre).1
  vt : Blk W (w.heap.size + 1 + 1) 22 #[.slice (some ⟨w.heap.size + 1, 0, none⟩) n n]
  vx : Blk W (w.heap.size + 1 + 1 + 1) 2 #[.int .i64 (foldG zs cs0 pre).2]
  sz : (foldG zs cs0 pre).1.size = n
  below : Below w.heap.size w W
theorem GenI.own {w : World} {A : Option Addr} {n c : Nat} {zs : List Int} {cs0 : Array Value} {D : Nat} (hD : w.heap.size + 4 ≤ D) : OwnFrom D (GenI w A n c zs cs0) := fun s A B row hs hg hr => by
  have h : ∀ g, g < w.heap.size + 4 → row ≠ some g := fun g hg' e => by have := (hr g e).1; omega
  exact ⟨hs.vo.grown hg (h _ (by omega)), hs.vc.grown hg (h _ (by omega)), hs.vt.grown hg (h _ (by omega)), hs.vx.grown hg (h _ (by omega)), hs.sz,
    hs.below.grown hg hs.below.size (fun k e => by have := (hr k e).1; omega)⟩
set_option maxRecDepth 100000 in
set_option maxHeartbeats 4000000 in
theorem generators_in (F : Fence) (N : Nat) (h1 : F.fn 54) (h2 : F.fn 81) (h3 : F.fn 97) (hro : F.round = none) (hN : 3 ≤ N) (A : Option Addr) (c : Nat) (zs : List Int) (hG : OkG zs) (w : World) (h : Sl w w.heap.size A zs.length c zs) :
    CallsIn F N Try.prog 54 #[.slice A zs.length c] w (Mk w (genL zs)) := by
  obtain ⟨i0, hi0, hz0, hz1, hz2⟩ := info_parts int_info
  have h4 := hG.l4
  have hl1 : 0 < zs.length := hG.l1
  have hn1 : 1 ≤ N := by omega
  have hmk := fun W => run_make (P := Try.prog) (w := W) 22 2 i0 (.int .i64 0) Try.underlying22 hi0 hz0 .i64 .i64 zs.length zs.length (by omega) (by omega) (by rw [hz2]; omega) (by omega)
  simp only [hz1, Int.toNat_natCast, Nat.mul_one] at hmk
  obtain ⟨b, off, rfl, hb, hc⟩ := h.at_ hl1
  have hcH := hide hc
  clear hc
  obtain ⟨cs0, hcs0⟩ : ∃ cs0, madeCells #[Value.int .i64 0] zs.length = cs0 := ⟨_, rfl⟩
  have hsz0 : cs0.size = zs.length := by rw [← hcs0]; exact size_madeCells _ _
  have hS0 := hide hsz0
  clear hsz0
  refine callsIn_of_wp_marks Try.func54 rfl h1 ?_ hro
  simp only [Try.ntmps54, List.size_toArray, List.length_cons, List.length_nil, Nat.reduceAdd, Nat.reduceSub, Array.replicate_succ, Array.replicate_zero, List.push_toArray, List.append_toArray, List.nil_append, List.cons_append]
  gi_wp2_with (gi_at_call 81; refine (bw_in F (N - 1) h2 hro _ _ _ _).mono ?_; rintro e w' ⟨rfl, rfl⟩)
  have hB0 : Below w.heap.size w (((((w.alloc (.cells #[.slice (some ⟨b, off, none⟩) zs.length c] 22)).alloc (.cells cs0 2)).alloc (.cells #[.slice (some ⟨w.heap.size + 1, 0, none⟩) zs.length zs.length] 22)).alloc (.cells #[.int .i64 1] 2)).alloc (.cells #[.slice (some ⟨b, off, none⟩) zs.length c] 22)) := (by repeat (first | assumption | exact Below.refl _ _ | apply below_drewN | apply Below.drew | apply Below.alloc | apply Below.setCell | omega | (focus (simp; done)) | (focus (simp; omega))))
  refine wpIn_rangeFunc_ownG hro hn1 (gf := 97) (lb := #[.pointer (some ⟨w.heap.size + 1 + 1 + 1 + 1, 0, none⟩)]) rfl h3 (enters_of Try.func97 (by kernel_rfl) rfl)
    (bw_stops (fun j : {j : Nat // j < zs.length} => #[.int .i64 (j.1 : Int), .int .i64 (gi zs j.1)]) (ixT zs.length hl1) F (N - 1) h3 hro (by omega) (w.heap.size + 1 + 1 + 1 + 1) w.heap.size zs.length c (some ⟨b, off, none⟩) zs (by omega) (fun k hk => by simp only [ixT]; rw [show ((zs.length - 1 - k : Nat) : Int) = (zs.length : Int) - 1 - k by omega]) _ (by simp) (by simp; omega) (by simp [World.cell?_alloc_at]) (h.below hB0))
    KpB.trans (KpB.obj (by simp; omega)) (Below.refl _ _) (fun _ => rfl)
    (GenI w (some ⟨b, off, none⟩) zs.length c zs cs0) (fun _ _ _ => False) (GenI.own (by simp)) (fun _ _ _ _ _ hs _ _ => hs)
    ⟨?v1, ?v2, ?v3, ?v4, hS0.out, hB0⟩
    ?a1 ?assign ?body ?done ?stop
  case v1 => exact ((((Blk.new _ _ _).alloc _).alloc _).alloc _).alloc _
  case v2 => exact (((Blk.new' _ _ _ _ (by simp)).alloc _).alloc _).alloc _
  case v3 => exact ((Blk.new' _ _ _ _ (by simp)).alloc _).alloc _
  case v4 => exact (Blk.new' _ _ _ _ (by simp)).alloc _
  case assign =>
    intro l x W K hK
    gi_wp2
    exact hK
  case body =>
    rintro l pre ⟨j, hj⟩ W ⟨hvo, hvc, hvt, hvx, sz, hB⟩ _
    obtain ⟨s1, hs1⟩ : ∃ s1, foldG zs cs0 pre = s1 := ⟨_, rfl⟩
    have HX := hide hs1
    rw [hs1] at hvx hvc sz
    clear hs1
    obtain ⟨cs, p⟩ := s1
    simp only at hvx hvc sz
    have cj := (hB.cell (p := ⟨b, off + j, none⟩) hb).trans (hcH.out j hj)
    obtain ⟨m, hm⟩ : ∃ m, gi zs j = m := ⟨_, rfl⟩
    rw [hm] at cj
    have HM := hide hm
    clear hm
    obtain ⟨u, hu⟩ : ∃ u, cs[j]? = some u := ⟨cs[j]'(by omega), Array.getElem?_eq_getElem _⟩
    have cu := (hvc.cell j).trans hu
    have fu := hvc.frozen j
    have co := hvo.cell 0
    have cx := hvx.cell 0
    have fx := hvx.frozen 0
    have ct := hvt.cell 0
    have HU := hide hu
    clear hu
    have i0 : 0 ≤ (j : Int) := by omega
    have i1 : (j : Int) < (zs.length : Int) := by omega
    have hs : foldG zs cs0 (pre ++ [⟨j, hj⟩]) = (cs.setIfInBounds j (.int .i64 p), IntKind.i64.wrap (p * m)) := by rw [foldG_snoc, HX.out]; unfold genT; simp only; rw [HM.out]
    have HS := hide hs
    clear hs
    obtain ⟨r, hr⟩ : ∃ r, IntKind.i64.wrap (p * m) = r := ⟨_, rfl⟩
    rw [hr] at HS
    have hbw : b ≠ w.heap.size + 1 := by omega
    gi_wp2
    refine wpIn_region_ord [0, 1, 2, 3, 4, 5, 6] 6 1000 (fun _ w' => w'.cell? ⟨w.heap.size + 1 + 1 + 1, 0, none⟩ = some (.int .i64 p) ∧ w'.cell? ⟨w.heap.size, 0, none⟩ = some (.slice (some ⟨b, off, none⟩) zs.length c) ∧ w'.cell? ⟨b, off + j, none⟩ = some (.int .i64 m)) (by kernel_rfl) (by kernel_rfl) (by kernel_rfl) (by kernel_rfl) (by kernel_rfl) ⟨?_, ?_, ?_⟩ ?_
    any_goals (go_simp; done)
    repeat (apply ordV_tk rfl (by rfl) (by rfl) (by rfl); (focus (rintro w ⟨bb, hbb, hSw⟩; (try have hbb' := hbb (by decide +kernel)); (try subst hbb'); clear hbb; (try dsimp only at hSw); (try simp only [true_implies, forall_const] at hSw); go_simp; (try with_reducible rfl))); (try simp only [Act.put, List.setIfInBounds_toArray, List.set_cons_zero, List.set_cons_succ]))
    refine ordV_store rfl (by rfl) (by rfl) (by go_simp; rfl) (fun h => absurd h (by omega)) ?_
    (try simp only [Act.put, List.setIfInBounds_toArray, List.set_cons_zero, List.set_cons_succ])
    refine ordV_nil ?_
    gi_wp2
    refine ⟨KeepsOthers.from ?kt _, ⟨(((Below.refl _ W).setCell ?n1 _).setCell ?n2 _).drew, fun v hv => ?kb⟩, ⟨?x1, ?x2, ?x3, ?x4, ?x5, (((hB.setCell ?n1 _).setCell ?n2 _).drew)⟩⟩
    case kt => exact ((KeepsOthers.setCell _ _ _).trans (KeepsOthers.setCell _ _ _)).trans (KeepsOthers.drew _)
    all_goals first | (show w.heap.size ≤ _; dsimp only; omega) | skip
    case kb => go_simp
    case x1 => exact (hvo.far (by simp <;> omega) _).far (by simp <;> omega) _
    case x2 => rw [HS.out]; exact (hvc.store j _).far (by simp <;> omega) _
    case x3 => exact (hvt.far (by simp <;> omega) _).far (by simp <;> omega) _
    case x4 => rw [HS.out]; exact (hvx.far (by simp <;> omega) _).store 0 _
    case x5 => rw [HS.out]; simp [sz]
  case done =>
    rintro D ys W hD rfl hs hK
    have ct := hs.vt.cell 0
    obtain ⟨hF, -⟩ := foldG_done hG cs0 hS0.out hl1 zs.length (Nat.le_refl _)
    rw [Nat.sub_self] at hF
    have HF := hide hF
    clear hF
    gi_wp2
    refine ⟨by simp, .inl ⟨_, _, rfl, run_takeDeferred hK, ?_⟩⟩
    refine ⟨_, results_tmp rfl _ _ _, ?_⟩
    have hlD := genL_len zs
    have hkeep := belowK_b (w := (((((w.alloc (.cells #[.slice (some ⟨b, off, none⟩) zs.length c] 22)).alloc (.cells cs0 2)).alloc (.cells #[.slice (some ⟨w.heap.size + 1, 0, none⟩) zs.length zs.length] 22)).alloc (.cells #[.int .i64 1] 2)).alloc (.cells #[.slice (some ⟨b, off, none⟩) zs.length c] 22))) (Nat.le_refl _) W D _ (.deferred none) hD hK rfl rfl
    refine ⟨.slice (some ⟨w.heap.size + 1, 0, none⟩) zs.length zs.length, rfl, ?_, hs.below.trans (hkeep.mono (by simp <;> omega))⟩
    refine ⟨by simp [hlD], .inr ⟨w.heap.size + 1, zs.length, _, by rw [hlD], by omega, (hkeep.block _ (by simp <;> omega)).trans hs.vc, by omega, by unfold maxLen; omega, by rw [hs.sz, Nat.mul_one], ?_⟩⟩
    rw [hlD, Nat.mul_one, HF.out.all.done hlD, List.take_of_length_le (by simp [hlD])]
  case stop =>
    rintro D c pre W _ _ h _
    exact h.elim
theorem generators_any (w : World) (A : Option Addr) (n c : Nat) (zs : List Int) (hG : OkG zs) (h : Sl w w.heap.size A n c zs) : Calls Try.prog 54 #[.slice A n c] w (Mk w (genL zs)) := by
  obtain rfl := h.len
  exact callsIn_wide.1 (generators_in Fence.wide 3 trivial trivial trivial rfl (Nat.le_refl _) A c zs hG w h)
end Go.Proofs.Ytkekgipeagchcaa
