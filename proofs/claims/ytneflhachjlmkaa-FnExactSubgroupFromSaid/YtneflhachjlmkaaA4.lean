
/- The walk of impl.addElements: a loop over slices.Backward. -/
import Derived.Test.YtneflhachjlmkaaA3
import Derived.Test.YtneflhachjlmkaaOrdIn
namespace Go.Proofs.Ytneflhachjlmkaa
open Go Go.RowKit Go.Shelf
set_option linter.unusedSimpArgs false
set_option linter.unusedVariables false
attribute [local go_sem] Oper.semAt_some

/-- An index and an order. -/
abbrev IxOrd := { x : Int × Int // 1 ≤ x.2 ∧ x.2 ≤ 1000000 }
/-- One round: what is left of both elements, the sum, the place. -/
def stepA (s : Int × Int × Int × Int) (x : IxOrd) : Int × Int × Int × Int :=
  (s.1 / x.1.2, s.2.1 / x.1.2, wrap64 (s.2.2.1 + wrap64 ((s.1 + s.2.1) % x.1.2 * s.2.2.2)), wrap64 (s.2.2.2 * x.1.2))
def foldA (a b : Int) (pre : List IxOrd) : Int × Int × Int × Int := pre.foldl stepA (a, b, 0, 1)
theorem foldA_snoc (a b : Int) (pre : List IxOrd) (x : IxOrd) : foldA a b (pre ++ [x]) = stepA (foldA a b pre) x := by simp [foldA]

/-- Between two rounds: the four variables in their boxes. -/
structure AddI (w : World) (a b : Int) (pre : List IxOrd) (W : World) : Prop where
  va : Blk W w.heap.size 2 #[.int .i64 (foldA a b pre).1]
  vb : Blk W (w.heap.size + 1) 2 #[.int .i64 (foldA a b pre).2.1]
  vs : Blk W (w.heap.size + 1 + 1) 2 #[.int .i64 (foldA a b pre).2.2.1]
  vp : Blk W (w.heap.size + 1 + 1 + 1) 2 #[.int .i64 (foldA a b pre).2.2.2]
  a0 : 0 ≤ (foldA a b pre).1
  a1 : (foldA a b pre).1 ≤ 1000000
  b0 : 0 ≤ (foldA a b pre).2.1
  b1 : (foldA a b pre).2.1 ≤ 1000000
  below : Below w.heap.size w W
theorem AddI.own {w : World} {a b : Int} {D : Nat} (hD : w.heap.size + 4 ≤ D) : OwnFrom D (AddI w a b) := fun s A B row hs hg hr => by
  have h : ∀ g, g < w.heap.size + 4 → row ≠ some g := fun g hg' e => by have := (hr g e).1; omega
  exact ⟨hs.va.grown hg (h _ (by omega)), hs.vb.grown hg (h _ (by omega)), hs.vs.grown hg (h _ (by omega)), hs.vp.grown hg (h _ (by omega)), hs.a0, hs.a1, hs.b0, hs.b1,
    hs.below.grown hg hs.below.size (fun k e => by have := (hr k e).1; omega)⟩

set_option maxRecDepth 100000 in
set_option maxHeartbeats 2000000 in
theorem addElements_in (F : Fence) (N : Nat) (h1 : F.fn 177) (h2 : F.fn 176) (h3 : F.fn 209) (hro : F.round = none) (hN : 3 ≤ N) (A : Option Addr) (n c : Nat) (zs : List Int) (a b : Int) (hn : n ≤ 1048576)
    (f : Nat → IxOrd) (hf : ∀ k, k < n → (f k).1 = ((n : Int) - 1 - k, gi zs (n - 1 - k))) (a0 : 0 ≤ a) (a1 : a ≤ 1000000) (b0 : 0 ≤ b) (b1 : b ≤ 1000000) (w : World) (h : Sl w w.heap.size A n c zs) :
    CallsIn F N Try.prog 177 #[.slice A n c, .int .i64 a, .int .i64 b] w fun e W' => e = .returned (.int .i64 (foldA a b (upTo f n)).2.2.1) ∧ Below w.heap.size w W' := by
  have hn1 : 1 ≤ N := by omega
  refine callsIn_of_wp_marks Try.func177 rfl h1 ?_ hro
  simp only [Try.ntmps177, List.size_toArray, List.length_cons, List.length_nil, Nat.reduceAdd, Nat.reduceSub, Array.replicate_succ, Array.replicate_zero, List.push_toArray, List.append_toArray, List.nil_append, List.cons_append]
  gi_wp2_with (gi_at_call 176; refine (bw_in F (N - 1) h2 hro _ _ _ _).mono ?_; rintro e w' ⟨rfl, rfl⟩)
  have hB0 : Below w.heap.size w (((((w.alloc (.cells #[.int .i64 a] 2)).alloc (.cells #[.int .i64 b] 2)).alloc (.cells #[.int .i64 0] 2)).alloc (.cells #[.int .i64 1] 2)).alloc (.cells #[.slice A n c] 22)) := (by repeat (first | assumption | exact Below.refl _ _ | apply below_drewN | apply Below.drew | apply Below.alloc | apply Below.setCell | omega | (focus (simp; done)) | (focus (simp; omega))))
  refine wpIn_rangeFunc_ownG hro hn1 (gf := 209) (lb := #[.pointer (some ⟨w.heap.size + 1 + 1 + 1 + 1, 0, none⟩)]) rfl h3 (enters_of Try.func209 (by kernel_rfl) rfl)
    (bw_stops (fun x : IxOrd => #[.int .i64 x.1.1, .int .i64 x.1.2]) f F (N - 1) h3 hro (by omega) (w.heap.size + 1 + 1 + 1 + 1) w.heap.size n c A zs hn (fun k hk => by simp only [hf k hk]) _ (by simp) (by simp; omega) (by simp [World.cell?_alloc_at]) (h.below hB0))
    KpB.trans (KpB.obj (by simp; omega)) (Below.refl _ _) (fun _ => rfl)
    (AddI w a b) (fun _ _ _ => False) (AddI.own (by simp)) (fun _ _ _ _ _ hs _ _ => hs)
    ⟨?v1, ?v2, ?v3, ?v4, a0, a1, b0, b1, hB0⟩
    ?a1 ?assign ?body ?done ?stop
  case v1 => exact ((((Blk.new _ _ _).alloc _).alloc _).alloc _).alloc _
  case v2 => exact (((Blk.new' _ _ _ _ (by simp)).alloc _).alloc _).alloc _
  case v3 => exact ((Blk.new' _ _ _ _ (by simp)).alloc _).alloc _
  case v4 => exact (Blk.new' _ _ _ _ (by simp)).alloc _
  case assign =>
    intro l x W K hK
    gi_wp2
    exact hK
  case body =>
    rintro l pre x W ⟨hva, hvb, hvs, hvp, q0, q1, q2, q3, hB⟩ _
    obtain ⟨s1, hs1⟩ : ∃ s1, foldA a b pre = s1 := ⟨_, rfl⟩
    have HX := hide hs1
    rw [hs1] at hva hvb hvs hvp q0 q1 q2 q3
    clear hs1
    obtain ⟨sa, sb, ss, sp⟩ := s1
    obtain ⟨⟨ix, m⟩, hm1, hm2⟩ := x
    simp only at hva hvb hvs hvp q0 q1 q2 q3 hm1 hm2
    have ca := hva.cell 0
    have cb := hvb.cell 0
    have cs := hvs.cell 0
    have cp := hvp.cell 0
    have fs := hvs.frozen 0
    have fp := hvp.frozen 0
    have fa := hva.frozen 0
    have fb := hvb.frozen 0
    have t0 : ¬ m = 0 := by omega
    have t1 : sa.tmod m = sa % m := Int.tmod_eq_emod_of_nonneg q0
    have t2 : sb.tmod m = sb % m := Int.tmod_eq_emod_of_nonneg q2
    have b1' : 0 ≤ sa % m ∧ sa % m < m := ⟨Int.emod_nonneg _ (by omega), Int.emod_lt_of_pos _ (by omega)⟩
    have b2' : 0 ≤ sb % m ∧ sb % m < m := ⟨Int.emod_nonneg _ (by omega), Int.emod_lt_of_pos _ (by omega)⟩
    have t3 : IntKind.i64.wrap (sa % m + sb % m) = sa % m + sb % m := by rw [wrap_eq]; exact wrap64_ok _ ⟨by omega, by omega⟩
    have t4 : (sa % m + sb % m).tmod m = (sa % m + sb % m) % m := Int.tmod_eq_emod_of_nonneg (by omega)
    have t5 : sa.tdiv m = sa / m := Int.tdiv_eq_ediv_of_nonneg q0
    have t6 : sb.tdiv m = sb / m := Int.tdiv_eq_ediv_of_nonneg q2
    have t7 : IntKind.i64.wrap (sa / m) = sa / m := by rw [wrap_eq]; exact wrap64_ok _ ⟨by have := Int.ediv_nonneg q0 (show 0 ≤ m by omega); omega, by have := Int.ediv_le_self m q0; omega⟩
    have t8 : IntKind.i64.wrap (sb / m) = sb / m := by rw [wrap_eq]; exact wrap64_ok _ ⟨by have := Int.ediv_nonneg q2 (show 0 ≤ m by omega); omega, by have := Int.ediv_le_self m q2; omega⟩
    gi_wp2
    refine wpIn_region_ord [0, 1, 2, 3, 4, 5, 6, 7, 8, 9, 10, 11, 12, 13] 13 1000 (fun _ w' => w'.cell? ⟨w.heap.size, 0, none⟩ = some (.int .i64 sa) ∧ w'.cell? ⟨w.heap.size + 1, 0, none⟩ = some (.int .i64 sb) ∧ w'.cell? ⟨w.heap.size + 1 + 1, 0, none⟩ = some (.int .i64 ss) ∧ w'.cell? ⟨w.heap.size + 1 + 1 + 1, 0, none⟩ = some (.int .i64 sp)) (by kernel_rfl) (by kernel_rfl) (by kernel_rfl) (by kernel_rfl) (by kernel_rfl) ⟨?_, ?_, ?_, ?_⟩ ?_
    any_goals (go_simp; done)
    repeat (apply ordV_take rfl (by rfl) (by rfl); (focus (rintro w ⟨bb, hbb, hSw⟩; (try have hbb' := hbb (by decide +kernel)); (try subst hbb'); clear hbb; (try dsimp only at hSw); (try simp only [true_implies, forall_const] at hSw); go_simp; (try with_reducible rfl))); (try simp only [Act.put, List.setIfInBounds_toArray, List.set_cons_zero, List.set_cons_succ]))
    refine ordV_store rfl (by rfl) (by rfl) (by go_simp; rfl) (fun h => absurd h (by omega)) ?_
    (try simp only [Act.put, List.setIfInBounds_toArray, List.set_cons_zero, List.set_cons_succ])
    refine ordV_nil ?_
    gi_wp2
    refine wpIn_region_ord [0, 1, 2, 3, 4, 5, 6, 7] 7 6 (fun b w' => w'.cell? ⟨w.heap.size + 1, 0, none⟩ = some (.int .i64 sb) ∧ (b = false → w'.cell? ⟨w.heap.size, 0, none⟩ = some (.int .i64 sa))) (by kernel_rfl) (by kernel_rfl) (by kernel_rfl) (by kernel_rfl) (by kernel_rfl) ⟨?_, fun _ => ?_⟩ ?_
    any_goals (go_simp; done)
    repeat (apply ordV_take rfl (by rfl) (by rfl); (focus (rintro w ⟨bb, hbb, hSw⟩; (try have hbb' := hbb (by decide +kernel)); (try subst hbb'); clear hbb; (try dsimp only at hSw); (try simp only [true_implies, forall_const] at hSw); go_simp; (try with_reducible rfl))); (try simp only [Act.put, List.setIfInBounds_toArray, List.set_cons_zero, List.set_cons_succ]))
    refine ordV_store rfl (by rfl) (by rfl) (by go_simp; rfl) (fun _ => ⟨by go_simp, fun h => by cases h⟩) ?_
    (try simp only [Act.put, List.setIfInBounds_toArray, List.set_cons_zero, List.set_cons_succ])
    refine ordV_store rfl (by rfl) (by rfl) (by go_simp; rfl) (fun h => absurd h (by omega)) ?_
    (try simp only [Act.put, List.setIfInBounds_toArray, List.set_cons_zero, List.set_cons_succ])
    refine ordV_nil ?_
    gi_wp2
    have hB' := hB.setCell (p := ⟨w.heap.size + 1 + 1, 0, none⟩) (by show w.heap.size ≤ w.heap.size + 1 + 1; omega) (.int .i64 (wrap64 (ss + wrap64 ((sa + sb) % m * sp))))
    have hs : foldA a b (pre ++ [⟨(ix, m), ⟨hm1, hm2⟩⟩]) = (sa / m, sb / m, wrap64 (ss + wrap64 ((sa + sb) % m * sp)), wrap64 (sp * m)) := by rw [foldA_snoc, HX.out]; rfl
    refine ⟨KeepsOthers.from ?kt _, ⟨(((((Below.refl _ W).setCell ?n1 _).setCell ?n2 _).setCell ?n3 _).setCell ?n4 _).drew.drew, fun v hv => ?kb⟩, ⟨?x1, ?x2, ?x3, ?x4, ?x5, ?x6, ?x7, ?x8, ((((hB.setCell ?n1 _).setCell ?n2 _).setCell ?n3 _).setCell ?n4 _).drew.drew⟩⟩
    case kt => exact ((((KeepsOthers.setCell _ _ _).trans (KeepsOthers.setCell _ _ _)).trans (KeepsOthers.setCell _ _ _)).trans (KeepsOthers.setCell _ _ _)).trans ((KeepsOthers.drew _).trans (KeepsOthers.drew _))
    all_goals first | (show w.heap.size ≤ _; dsimp only; omega) | skip
    case kb => go_simp
    case x1 => rw [hs]; exact (((hva.far (by simp; omega) _).far (by simp; omega) _).store 0 _).far (by simp) _
    case x2 => rw [hs]; exact (((hvb.far (by simp) _).far (by simp) _).far (by simp) _).store 0 _
    case x3 => rw [hs]; exact (((hvs.store 0 _).far (by simp) _).far (by simp; omega) _).far (by simp) _
    case x4 => rw [hs]; exact (((hvp.far (by simp) _).store 0 _).far (by simp; omega) _).far (by simp; omega) _
    case x5 => rw [hs]; exact Int.ediv_nonneg q0 (by omega)
    case x6 => rw [hs]; exact Int.le_trans (Int.ediv_le_self m q0) q1
    case x7 => rw [hs]; exact Int.ediv_nonneg q2 (by omega)
    case x8 => rw [hs]; exact Int.le_trans (Int.ediv_le_self m q2) q3
  case done =>
    rintro D ys W hD rfl hs hK
    have cs := hs.vs.cell 0
    gi_wp2
    refine ⟨by simp, .inl ⟨_, _, rfl, run_takeDeferred hK, ?_⟩⟩
    exact ⟨_, results_tmp rfl _ _ _, rfl, hs.below.trans (belowK_b (w := w) (Nat.le_refl _) W D _ _ (by simp at hD; omega) hK rfl rfl)⟩
  case stop =>
    rintro D c pre W _ _ h _
    exact h.elim
end Go.Proofs.Ytneflhachjlmkaa
