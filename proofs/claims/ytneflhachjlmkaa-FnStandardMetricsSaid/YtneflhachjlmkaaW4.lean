
/- The walks of impl.within, spec.l01In, Metric.rest, impl.HyperbolicMetric, spec.HyperbolicMetric. -/
import Derived.Test.YtneflhachjlmkaaW3
import Derived.Test.YtneflhachjlmkaaGa
namespace Go.Proofs.Ytneflhachjlmkaa
open Go Go.RowKit
set_option linter.unusedSimpArgs false
set_option linter.unusedVariables false

def hypAt (n : Int) (k : Nat) : List Int := (List.range k).map fun (x : Nat) => ((x : Int) / n * ((x : Int) % n)) % n
theorem hypAt_succ (n : Int) (k : Nat) : hypAt n (k + 1) = hypAt n k ++ [((k : Int) / n * ((k : Int) % n)) % n] := by simp [hypAt, List.range_succ]
theorem hypAt_len (n : Int) (k : Nat) : (hypAt n k).length = k := by simp [hypAt]

/-- What the loop keeps: the result's slot, the orders, the metric with the values so far. -/
structure HypIm (w : World) (n : Nat) (xs : List Int) (vv : Value) (wr : World) : Prop where
  res : Blk wr w.heap.size 28 #[.slice none 0 0, .int .i64 0, .slice none 0 0]
  ords : Ow wr w.heap.size (.slice (some ⟨w.heap.size + 1, 0, none⟩) 2 2) [(n : Int), n]
  out : Blk wr (w.heap.size + 1 + 1) 28 #[.slice (some ⟨w.heap.size + 1, 0, none⟩) 2 2, .int .i64 n, vv]
  vals : Ow wr w.heap.size vv xs
  apart : Apart (.slice (some ⟨w.heap.size + 1, 0, none⟩) 2 2) vv
  below : Below w.heap.size w wr

theorem impl_Hyperbolic_any (w : World) (n : Nat) (h2 : 2 ≤ n) (h4 : n ≤ 4) : Calls Try.prog 76 #[.int .i64 n] w (MkM w [(n : Int), n] n (hypAt n (n * n)) 0) := by
  have hnn : n * n ≤ 16 := Nat.mul_le_mul h4 h4
  have hn1 : 0 ≤ (n : Int) * n := Int.mul_nonneg (by omega) (by omega)
  have hn2 : (n : Int) * n ≤ 16 := by exact_mod_cast hnn
  go_enter Try.func76, Try.ntmps76
  go_wp2_with (go_at_call 137; refine (within_t _ _ _ _ (by omega) (by omega)).mono ?_; rintro e w' ⟨rfl, m, rfl⟩)
  go_loopw [18] (fun x wr => ∃ (k : Nat) (vv : Value), k ≤ n * n ∧ x = .int .i64 k ∧ HypIm w n (hypAt n k) vv wr) (fun x _ => n * n - (intOf x).toNat)
  case atStart =>
    refine ⟨0, _, by omega, rfl, ⟨(((Blk.new _ _ _).drewN _).alloc _).alloc _, ?_, ?_, Ow.nil _ _, ?_, ?_⟩⟩
    · exact (Ow.made' _ _ (w.heap.size + 1) 2 (by simp) rfl (by omega) rfl (by unfold maxLen; omega)).alloc _
    · exact Blk.new' _ _ _ _ (by simp)
    · intro b _; simp [Value.ownBlock]
    · exact (by repeat (first | assumption | exact Below.refl _ _ | apply below_drewN | apply Below.drew | apply Below.alloc | apply Below.setCell | omega | (focus (simp; done)) | (focus (simp; omega))))
  case round =>
    obtain ⟨k, vv, hk, rfl, hI⟩ := hrel
    obtain ⟨xs, hxs⟩ : ∃ xs, hypAt (n : Int) k = xs := ⟨_, rfl⟩
    rw [hxs] at hI
    have hlen : xs.length = k := by rw [← hxs, hypAt_len]
    have hX := hide hxs
    have hL := hide hlen
    clear hxs hlen
    obtain ⟨hres, hords, hout, hvals, hapart, hbelow⟩ := hI
    by_cases hlt : k < n * n
    · have c0 := hout.cell 0
      have c1 := hout.cell 1
      have c2 := hout.cell 2
      have hsz := hout.lt
      have hkb : (k : Int) < n * n := by exact_mod_cast hlt
      have a1 : 0 ≤ (k : Int) / n := Int.ediv_nonneg (by omega) (by omega)
      have a2 : (k : Int) / n ≤ 16 := Int.le_trans (Int.ediv_le_self _ (by omega)) (by omega)
      have b1 : 0 ≤ (k : Int) % n := Int.emod_nonneg _ (by omega)
      have b2 : (k : Int) % n ≤ 4 := by have := Int.emod_lt_of_pos (k : Int) (show (0 : Int) < n by omega); omega
      have d1 : 0 ≤ (k : Int) / n * ((k : Int) % n) := Int.mul_nonneg a1 b1
      have d2 : (k : Int) / n * ((k : Int) % n) ≤ 64 := Int.le_trans (Int.mul_le_mul a2 b2 b1 (by omega)) (by omega)
      go_wp2
      have k1 : (k : Int).tdiv n = (k : Int) / n := Int.tdiv_eq_ediv_of_nonneg (by omega)
      have k2 : (k : Int).tmod n = (k : Int) % n := Int.tmod_eq_emod_of_nonneg (by omega)
      have k3 : IntKind.i64.wrap ((k : Int) / n) = (k : Int) / n := wr64 _ ⟨by omega, by omega⟩
      have k4 : IntKind.i64.wrap ((k : Int) / n * ((k : Int) % n)) = (k : Int) / n * ((k : Int) % n) := wr64 _ ⟨by omega, by omega⟩
      have k5 : ¬ n = 0 := by omega
      refine wp_region_ord [0, 1, 2, 3, 4, 5, 6, 7, 8, 9, 10, 11, 12, 13, 14] 13 (fun w' => w'.cell? ⟨w.heap.size + 1 + 1, 0, none⟩ = some (.slice (some ⟨w.heap.size + 1, 0, none⟩) 2 2) ∧ w'.cell? ⟨w.heap.size + 1 + 1, 1, none⟩ = some (.int .i64 n) ∧ w'.cell? ⟨w.heap.size + 1 + 1, 2, none⟩ = some vv) (by kernel_rfl) (by kernel_rfl) (by kernel_rfl) (fun _ _ _ _ _ h => h) ?_ ?_
      · exact ⟨c0, c1, c2⟩
      repeat (apply ord_take rfl (by rfl) (by rfl); (focus (intro w hSw; (try dsimp only at hSw); go_simp; (try with_reducible rfl))); (try simp only [Act.put, List.setIfInBounds_toArray, List.set_cons_zero, List.set_cons_succ]))
      refine ord_do rfl (by rfl) (by rfl) (fun K hK => ?_)
      go_simp
      refine (rest_any _ _ _ _ _ (by omega) (by omega)).mono ?_
      rintro e w1 ⟨rfl, hr1⟩
      have hsz1 := hr1.size
      simp only [heap_drew] at hr1 hsz1
      have o1 : Blk w1 (w.heap.size + 1 + 1) _ _ := hout.drew.all hr1
      refine hK.out _ _ (fun _ => ⟨o1.cell 0, o1.cell 1, o1.cell 2⟩) ?_
      (try simp only [Act.put, List.setIfInBounds_toArray, List.set_cons_zero, List.set_cons_succ])
      clear hK K
      have v1 : Ow w1 w.heap.size vv xs := (hvals.drew).below hr1
      have r1 : Blk w1 w.heap.size _ _ := hres.drew.all hr1
      have s1 : Ow w1 w.heap.size _ _ := (hords.drew).below hr1
      have bl1 : Below w.heap.size w w1 := hbelow.drew.trans (hr1.mono (by omega))
      refine ord_do rfl (by rfl) (by rfl) (fun K hK => ?_)
      go_simp
      refine hK.out _ _ (fun _ => ⟨(o1.alloc _).cell 0, (o1.alloc _).cell 1, (o1.alloc _).cell 2⟩) ?_
      (try simp only [Act.put, List.setIfInBounds_toArray, List.set_cons_zero, List.set_cons_succ])
      clear hK K
      refine ord_do rfl (by rfl) (by rfl) (fun K hK => ?_)
      refine wp_push _ _ _ (by rfl) w.heap.size vv xs (by rfl) (v1.alloc _) _ w1.heap.size 2 (by rfl) (Blk.new w1 _ _) (by rw [hL.out]; omega) (by simp; omega) (by simp) ?_
      intro g cap w2 hP
      have o2 := hP.blk (v1.alloc _) (o1.alloc _) (by decide)
      refine hK.out _ _ (fun _ => ⟨o2.cell 0, o2.cell 1, o2.cell 2⟩) ?_
      (try simp only [Act.put, List.setIfInBounds_toArray, List.set_cons_zero, List.set_cons_succ])
      clear hK K
      refine ord_do rfl (by rfl) (by rfl) (fun K hK => ?_)
      go_simp
      refine hK.out _ _ (fun h => absurd h (by omega)) ?_
      (try simp only [Act.put, List.setIfInBounds_toArray, List.set_cons_zero, List.set_cons_succ])
      clear hK K
      have c2' := o2.cell 2
      have f2' := o2.frozen 2
      refine ord_do rfl (by rfl) (by rfl) (fun K hK => ?_)
      go_simp
      refine hK.out _ _ (fun h => absurd h (by omega)) ?_
      (try simp only [Act.put, List.setIfInBounds_toArray, List.set_cons_zero, List.set_cons_succ])
      clear hK K
      refine ord_nil ?_
      clear k1 k2 k3 k4
      go_wp2
      go_roundw
      case rel =>
        refine ⟨k + 1, _, by omega, by go_num, ⟨?_, ?_, o2.store 2 _, ?_, ?_, ?_⟩⟩
        · exact (hP.blk (v1.alloc _) (r1.alloc _) (by decide)).far (by simp; omega) _
        · exact (hP.far (s1.alloc _) hapart).setCell o2 (by decide) _ _
        · rw [hypAt_succ, hX.out]; exact hP.own.setCell o2 (by decide) _ _
        · exact hP.apart (fun b hb => by have := s1.lt b hb; omega) hapart
        · exact ((bl1.alloc (by omega) _).trans (hP.below (v1.alloc _) (by simp; omega))).setCell (by simp; omega) _
      case measure => simp [intOf]; omega
    · obtain ⟨A, c, rfl⟩ := hvals.val
      have c0 := hout.cell 0
      have c1 := hout.cell 1
      have c2 := hout.cell 2
      have r0 := hres.cell 0
      have r1 := hres.cell 1
      have r2 := hres.cell 2
      have f0 := hres.frozen 0
      have f1 := hres.frozen 1
      have f2 := hres.frozen 2
      have hkb : ¬ (k : Int) < n * n := by exact_mod_cast hlt
      go_wp2
      have hb3 := put3_blk (x := .slice (some ⟨w.heap.size + 1, 0, none⟩) 2 2) (y := .int .i64 n) (z := .slice A xs.length c) hres
      have q0 := hb3.cell 0
      have q1 := hb3.cell 1
      have q2 := hb3.cell 2
      unfold put3 at q0 q1 q2
      refine bodyPost_ret (v := .tuple #[.agg #[.slice (some ⟨w.heap.size + 1, 0, none⟩) 2 2, .int .i64 n, .slice A xs.length c], .int .i64 0]) (by simp [results, Try.results76, go_sem, q0, q1, q2]) rfl ?_
      obtain rfl : k = n * n := by omega
      refine ⟨_, _, rfl, put3_own hres (by decide) hords, ?_, hapart, put3_below hbelow (Nat.le_refl _)⟩
      rw [hX.out]; exact put3_own hres (by decide) hvals

theorem impl_Hyperbolic_no (w : World) (n : Int) (h : ¬ (2 ≤ n ∧ n ≤ 4)) : Calls Try.prog 76 #[.int .i64 n] w (NoM w 2) := by
  go_enter Try.func76, Try.ntmps76
  go_wp2_with (go_at_call 137; refine (within_f _ _ _ _ h).mono ?_; rintro e w' ⟨rfl, m, rfl⟩)
  refine bodyPost_ret (v := .tuple #[.agg #[.slice none 0 0, .int .i64 0, .slice none 0 0], .int .i64 2]) (by simp [results, Try.results76, go_sem]) rfl ⟨rfl, (by repeat (first | assumption | exact Below.refl _ _ | apply below_drewN | apply Below.drew | apply Below.alloc | apply Below.setCell | omega | (focus (simp; done)) | (focus (simp; omega))))⟩
theorem spec_Hyperbolic_no (w : World) (n : Int) (h : ¬ (2 ≤ n ∧ n ≤ 4)) : Calls Try.prog 77 #[.int .i64 n] w (NoM w 2) := by
  go_enter Try.func77, Try.ntmps77
  go_wp2_with (go_at_call 139; refine (l01In_f _ _ _ _ h).mono ?_; rintro e w' ⟨rfl, m, rfl⟩)
  refine bodyPost_ret (v := .tuple #[.agg #[.slice none 0 0, .int .i64 0, .slice none 0 0], .int .i64 2]) (by simp [results, Try.results77, go_sem]) rfl ⟨rfl, (by repeat (first | assumption | exact Below.refl _ _ | apply below_drewN | apply Below.drew | apply Below.alloc | apply Below.setCell | omega | (focus (simp; done)) | (focus (simp; omega))))⟩
theorem spec_Hyperbolic_any (w : World) (n : Nat) (h2 : 2 ≤ n) (h4 : n ≤ 4) : Calls Try.prog 77 #[.int .i64 n] w (MkM w [(n : Int), n] n (hypTo n n) 0) := by
  go_enter Try.func77, Try.ntmps77
  go_wp2_with (go_at_call 139; refine (l01In_t _ _ _ _ (by omega) (by omega)).mono ?_; rintro e w' ⟨rfl, m, rfl⟩)
  refine (l10Hyperbolic_any _ _ h2 h4).mono ?_
  rintro e w1 ⟨v1, v2, rfl, ho1, ho2, hap, hb⟩
  obtain ⟨A1, c1, rfl⟩ : ∃ A c, v1 = .slice A 2 c := ho1.val
  obtain ⟨A2, c2, rfl⟩ := ho2.val
  have hres := ((Blk.new w 28 #[.slice none 0 0, .int .i64 0, .slice none 0 0]).drewN m).all hb
  have r0 := hres.cell 0
  have r1 := hres.cell 1
  have r2 := hres.cell 2
  have f0 := hres.frozen 0
  have f1 := hres.frozen 1
  have f2 := hres.frozen 2
  go_wp2
  have hb3 := put3_blk (x := .slice A1 2 c1) (y := .int .i64 n) (z := .slice A2 (hypTo n n).length c2) hres
  have q0 := hb3.cell 0
  have q1 := hb3.cell 1
  have q2 := hb3.cell 2
  unfold put3 at q0 q1 q2
  refine bodyPost_ret (v := .tuple #[.agg #[.slice A1 2 c1, .int .i64 n, .slice A2 (hypTo n n).length c2], .int .i64 0]) (by simp [results, Try.results77, go_sem, q0, q1, q2]) rfl ?_
  exact ⟨_, _, rfl, put3_own hres (by decide) (ho1.less (by simp)), put3_own hres (by decide) (ho2.less (by simp)), hap, put3_below (((by repeat (first | assumption | exact Below.refl _ _ | apply below_drewN | apply Below.drew | apply Below.alloc | apply Below.setCell | omega | (focus (simp; done)) | (focus (simp; omega)))) : Below w.heap.size w ((w.alloc _).drewN m)).trans (hb.mono (by simp))) (Nat.le_refl _)⟩
end Go.Proofs.Ytneflhachjlmkaa
