
/- The walks of the hyperbolic metrics. The walks of impl.within, spec.l01In, Metric.rest, impl.HyperbolicMetric, spec.HyperbolicMetric. The walks of impl.isOrder, spec.l01Divisor and of the cyclic metrics. -/
import Derived.Test.YtonehmjoolflfaaGreatDoorLa
import Derived.Deep.DrawnRows
import Derived.Test.YtonehmjoolflfaaGreatDoorGa
namespace Go.Proofs.YtonehmjoolflfaaGreatDoor
open Go Go.RowKit
set_option linter.unusedSimpArgs false
set_option linter.unusedVariables false
attribute [local go_sem ↓] Go.wp_at_zero Go.wp_at_succ

def hypRow (n x : Int) (k : Nat) : List Int := (List.range k).map fun (y : Nat) => x * (y : Int) % n
def hypTo (n : Int) (k : Nat) : List Int := (List.range k).flatMap fun (x : Nat) => hypRow n (x : Int) n.toNat
theorem hypRow_succ (n x : Int) (k : Nat) : hypRow n x (k + 1) = hypRow n x k ++ [x * (k : Int) % n] := by simp [hypRow, List.range_succ]
theorem hypTo_succ (n : Int) (k : Nat) : hypTo n (k + 1) = hypTo n k ++ hypRow n k n.toNat := by simp [hypTo, List.range_succ, List.flatMap_append]
theorem hypRow_len (n x : Int) (k : Nat) : (hypRow n x k).length = k := by simp [hypRow]
theorem hypTo_len (n : Int) (k : Nat) : (hypTo n k).length = k * n.toNat := by
  induction k with
  | zero => simp [hypTo]
  | succ k ih => rw [hypTo_succ, List.length_append, ih, hypRow_len, Nat.succ_mul]

/-- What the loops of l10Hyperbolic keep: the result's slot, the orders, the metric with the values so far. -/
structure HypIn (w : World) (n : Nat) (xs : List Int) (vv : Value) (wr : World) : Prop where
  res : Blk wr w.heap.size 26 #[.slice none 0 0, .int .i64 0, .slice none 0 0]
  ords : Ow wr w.heap.size (.slice (some ⟨w.heap.size + 1, 0, none⟩) 2 2) [(n : Int), n]
  out : Blk wr (w.heap.size + 1 + 1) 26 #[.slice (some ⟨w.heap.size + 1, 0, none⟩) 2 2, .int .i64 n, vv]
  vals : Ow wr w.heap.size vv xs
  apart : Apart (.slice (some ⟨w.heap.size + 1, 0, none⟩) 2 2) vv
  below : Below w.heap.size w wr

theorem l10Hyperbolic_any (w : World) (n : Nat) (h2 : 2 ≤ n) (h4 : n ≤ 4) : Calls Tryz.prog 82 #[.int .i64 n] w (MkM1 w [(n : Int), n] n (hypTo n n)) := by
  obtain ⟨i0, hi0, hz0, hz1, hz2⟩ := info_parts int_info
  go_enter Tryz.func82, Tryz.ntmps82
  go_wp2
  go_loopw [4] (fun x wr => ∃ (k : Nat) (vv : Value), k ≤ n ∧ x = .int .i64 k ∧ HypIn w n (hypTo n k) vv wr) (fun x _ => n - (intOf x).toNat)
  case atStart =>
    refine ⟨0, _, by omega, rfl, ⟨((Blk.new _ _ _).alloc _).alloc _, (Ow.made' _ _ (w.heap.size + 1) 2 (by simp) rfl (by omega) rfl (by unfold maxLen; omega)).alloc _, Blk.new' _ _ _ _ (by simp), Ow.nil _ _, ?_, ?_⟩⟩
    · intro b _; simp [Value.ownBlock]
    · exact (by repeat (first | assumption | exact Below.refl _ _ | apply below_drewN | apply Below.drew | apply Below.alloc | apply Below.setCell | omega | (focus (simp; done)) | (focus (simp; omega))))
  case round =>
    obtain ⟨k, vv, hk, rfl, hI⟩ := hrel
    by_cases hlt : k < n
    · go_wp2
      go_loopw [5] (fun y wr' => ∃ (j : Nat) (vv : Value), j ≤ n ∧ y = .int .i64 j ∧ HypIn w n (hypTo n k ++ hypRow n k j) vv wr') (fun y _ => n - (intOf y).toNat)
      case atStart => exact ⟨0, vv, by omega, rfl, by simpa [hypRow] using hI⟩
      case round =>
        obtain ⟨j, vv, hj, rfl, hI⟩ := hrel
        by_cases hjt : j < n
        · obtain ⟨xs, hxs⟩ : ∃ xs, hypTo (n : Int) k ++ hypRow n k j = xs := ⟨_, rfl⟩
          rw [hxs] at hI
          obtain ⟨hres, hords, hout, hvals, hapart, hbelow⟩ := hI
          have c2 := hout.cell 2
          have f2 := hout.frozen 2
          have hlen : xs.length ≤ 1000 := by
            rw [← hxs, List.length_append, hypTo_len, hypRow_len]
            have : k * (n : Int).toNat ≤ 4 * 4 := Nat.mul_le_mul (by omega) (by omega)
            omega
          have hmul : 0 ≤ (k : Int) * j ∧ (k : Int) * j ≤ 16 := by
            refine ⟨Int.mul_nonneg (by omega) (by omega), ?_⟩
            have := Nat.mul_le_mul (show k ≤ 4 by omega) (show j ≤ 4 by omega)
            exact_mod_cast this
          obtain ⟨hm1, hm2⟩ := hmul
          have hX := hide hxs
          clear hxs
          go_wp2
          have hsz := hout.lt
          have k1 : IntKind.i64.wrap ((k : Int) * j) = (k : Int) * j := wr64 _ ⟨by omega, by omega⟩
          have k2 : ((n : Int) == 0) = false := by rw [beq_eq_false_iff_ne]; omega
          have k4 : ¬ n = 0 := by omega
          have k3 : ((k : Int) * j).tmod n = (k : Int) * j % n := Int.tmod_eq_emod_of_nonneg hm1
          refine wp_region_ord [0, 1, 2, 3, 4, 5, 6, 7, 8, 9, 10] 9 (fun w' => w'.cell? ⟨w.heap.size + 1 + 1, 2, none⟩ = some vv) (by kernel_rfl) (by kernel_rfl) (by kernel_rfl) (fun _ _ _ _ _ h => h) ?_ ?_
          · exact c2
          repeat (apply ord_take rfl (by rfl) (by rfl); (focus (intro w hSw; (try dsimp only at hSw); go_simp; (try with_reducible rfl))); (try simp only [Act.put, List.setIfInBounds_toArray, List.set_cons_zero, List.set_cons_succ]))
          refine ord_do rfl (by rfl) (by rfl) (fun K hK => ?_)
          go_simp
          refine hK.out _ _ (fun _ => by exact (((hout.alloc _).drew).cell 2)) ?_
          (try simp only [Act.put, List.setIfInBounds_toArray, List.set_cons_zero, List.set_cons_succ])
          clear hK K
          refine ord_do rfl (by rfl) (by rfl) (fun K hK => ?_)
          refine wp_push _ _ _ (by rfl) w.heap.size vv _ (by rfl) ((hvals.alloc _).drew) ((k : Int) * j % n) wr.heap.size 2 (by rfl) ((Blk.new wr _ _).drew) (by omega) (by simp; omega) (by simp) ?_
          intro g cap w1 hP
          have hb1 := hP.blk ((hvals.alloc _).drew) ((hout.alloc _).drew) (by decide)
          refine hK.out _ _ (fun _ => hb1.cell 2) ?_
          (try simp only [Act.put, List.setIfInBounds_toArray, List.set_cons_zero, List.set_cons_succ])
          clear hK K
          refine ord_do rfl (by rfl) (by rfl) (fun K hK => ?_)
          go_simp
          refine hK.out _ _ (fun h => absurd h (by omega)) ?_
          (try simp only [Act.put, List.setIfInBounds_toArray, List.set_cons_zero, List.set_cons_succ])
          clear hK K
          have c2' := hb1.cell 2
          have f2' := hb1.frozen 2
          refine ord_do rfl (by rfl) (by rfl) (fun K hK => ?_)
          go_simp
          refine hK.out _ _ (fun h => absurd h (by omega)) ?_
          (try simp only [Act.put, List.setIfInBounds_toArray, List.set_cons_zero, List.set_cons_succ])
          clear hK K
          refine ord_nil ?_
          go_wp2
          go_roundw
          case rel =>
            refine ⟨j + 1, _, by omega, by go_num, ⟨?_, ?_, hb1.store 2 _, ?_, ?_, ?_⟩⟩
            · exact (hP.blk ((hvals.alloc _).drew) ((hres.alloc _).drew) (by decide)).far (by simp; omega) _
            · exact (hP.far ((hords.alloc _).drew) hapart).setCell hb1 (by decide) _ _
            · rw [hypRow_succ, ← List.append_assoc, hX.out]; exact hP.own.setCell hb1 (by decide) _ _
            · exact hP.apart (fun b hb => by have := hords.lt b hb; omega) hapart
            · exact ((hbelow.alloc (by omega) _).drew.trans (hP.below ((hvals.alloc _).drew) (by simp; omega))).setCell (by simp; omega) _
          case measure => simp [intOf]; omega
        · go_wp2
          go_roundw
          case rel => exact ⟨k + 1, vv, by omega, by go_num, by
            obtain rfl : j = n := by omega
            rw [hypTo_succ]; simpa using hI⟩
          case measure => simp [intOf]; omega
    · obtain ⟨hres, hords, hout, hvals, hapart, hbelow⟩ := hI
      obtain ⟨A, c, rfl⟩ := hvals.val
      have c0 := hout.cell 0
      have c1 := hout.cell 1
      have c2 := hout.cell 2
      have r0 := hres.cell 0
      have r1 := hres.cell 1
      have r2 := hres.cell 2
      have f0 := hres.frozen 0
      have f1 := hres.frozen 1
      have f2 := hres.frozen 2
      go_wp2
      have hb3 := put3_blk (x := .slice (some ⟨w.heap.size + 1, 0, none⟩) 2 2) (y := .int .i64 n) (z := .slice A (hypTo n k).length c) hres
      have q0 := hb3.cell 0
      have q1 := hb3.cell 1
      have q2 := hb3.cell 2
      unfold put3 at q0 q1 q2
      refine bodyPost_ret (v := .agg #[.slice (some ⟨w.heap.size + 1, 0, none⟩) 2 2, .int .i64 n, .slice A (hypTo n k).length c]) (by simp [results, Tryz.results82, go_sem, q0, q1, q2]) rfl ?_
      obtain rfl : k = n := by omega
      exact ⟨_, _, rfl, put3_own hres (by decide) hords, put3_own hres (by decide) hvals, hapart, put3_below hbelow (Nat.le_refl _)⟩

def hypAt (n : Int) (k : Nat) : List Int := (List.range k).map fun (x : Nat) => ((x : Int) / n * ((x : Int) % n)) % n
theorem hypAt_succ (n : Int) (k : Nat) : hypAt n (k + 1) = hypAt n k ++ [((k : Int) / n * ((k : Int) % n)) % n] := by simp [hypAt, List.range_succ]
theorem hypAt_len (n : Int) (k : Nat) : (hypAt n k).length = k := by simp [hypAt]

/-- What the loop keeps: the result's slot, the orders, the metric with the values so far. -/
structure HypIm (w : World) (n : Nat) (xs : List Int) (vv : Value) (wr : World) : Prop where
  res : Blk wr w.heap.size 26 #[.slice none 0 0, .int .i64 0, .slice none 0 0]
  ords : Ow wr w.heap.size (.slice (some ⟨w.heap.size + 1, 0, none⟩) 2 2) [(n : Int), n]
  out : Blk wr (w.heap.size + 1 + 1) 26 #[.slice (some ⟨w.heap.size + 1, 0, none⟩) 2 2, .int .i64 n, vv]
  vals : Ow wr w.heap.size vv xs
  apart : Apart (.slice (some ⟨w.heap.size + 1, 0, none⟩) 2 2) vv
  below : Below w.heap.size w wr

def cycTo (a q : Int) (k : Nat) : List Int := (List.range k).map fun (x : Nat) => a * (x : Int) * (x : Int) % q
theorem cycTo_succ (a q : Int) (k : Nat) : cycTo a q (k + 1) = cycTo a q k ++ [a * (k : Int) * (k : Int) % q] := by simp [cycTo, List.range_succ]
theorem cycTo_len (a q : Int) (k : Nat) : (cycTo a q k).length = k := by simp [cycTo]
theorem cyc_bd {a : Int} {k n : Nat} (h0 : 0 ≤ a) (h1 : a ≤ 31) (hk : k < n) (hn : n ≤ 16) : 0 ≤ a * (k : Int) ∧ a * (k : Int) ≤ 496 ∧ 0 ≤ a * (k : Int) * k ∧ a * (k : Int) * k ≤ 7936 := by
  have e1 : 0 ≤ a * (k : Int) := Int.mul_nonneg h0 (by omega)
  have e2 : a * (k : Int) ≤ 31 * 16 := Int.mul_le_mul h1 (by omega) (by omega) (by omega)
  have e3 : 0 ≤ a * (k : Int) * k := Int.mul_nonneg e1 (by omega)
  have e4 : a * (k : Int) * k ≤ 496 * 16 := Int.mul_le_mul (by omega) (by omega) (by omega) (by omega)
  exact ⟨e1, by omega, e3, by omega⟩

theorem l10Cyclic_any (w : World) (n : Nat) (a q : Int) (h2 : 2 ≤ n) (h4 : n ≤ 16) (a0 : 0 ≤ a) (a1 : a ≤ 31) (hq : q = if (n : Int) % 2 = 0 then 2 * (n : Int) else n) :
    Calls Tryz.prog 81 #[.int .i64 n, .int .i64 a] w (MkM1 w [(n : Int)] q (cycTo a q n)) := by
  by_cases hp : (n : Int) % 2 = 0
  · rw [if_pos hp] at hq
    subst hq
    have hpb : ((n : Int) % 2 == 0) = true := by simpa using hp
    clear hp
    go_enter Tryz.func81, Tryz.ntmps81
    go_wp2
    go_loopw [6] (fun x wr => ∃ (k : Nat) (vv : Value), k ≤ n ∧ x = .int .i64 k ∧ MetIn w w.heap.size w.heap.size (w.heap.size + 1 + 1) (.slice (some ⟨w.heap.size + 1, 0, none⟩) 1 1) [(n : Int)] (2 * (n : Int)) vv (cycTo a (2 * (n : Int)) k) wr) (fun x _ => n - (intOf x).toNat)
    case atStart =>
      refine ⟨0, _, by omega, rfl, ⟨((Blk.new _ _ _).alloc _).alloc _, (Ow.made' _ _ (w.heap.size + 1) 1 (by simp) rfl (by omega) rfl (by unfold maxLen; omega)).alloc _, Blk.new' _ _ _ _ (by simp), Ow.nil _ _, ?_, ?_⟩⟩
      · intro b _; simp [Value.ownBlock]
      · exact (by repeat (first | assumption | exact Below.refl _ _ | apply below_drewN | apply Below.drew | apply Below.alloc | apply Below.setCell | omega | (focus (simp; done)) | (focus (simp; omega))))
    case round =>
      obtain ⟨k, vv, hk, rfl, hI⟩ := hrel
      obtain ⟨xs, hxs⟩ : ∃ xs, cycTo a (2 * (n : Int)) k = xs := ⟨_, rfl⟩
      have hlen : xs.length = k := by rw [← hxs, cycTo_len]
      rw [hxs] at hI
      have hX := hide hxs
      have hL := hide hlen
      clear hxs hlen
      have hsz := hI.out.lt
      by_cases hlt : k < n
      · obtain ⟨b1, b2, b3, b4⟩ := cyc_bd a0 a1 hlt h4
        go_wp2
        have k1 : IntKind.i64.wrap (a * (k : Int)) = a * (k : Int) := wr64 _ ⟨by omega, by omega⟩
        have k2 : IntKind.i64.wrap (a * (k : Int) * k) = a * (k : Int) * k := wr64 _ ⟨by omega, by omega⟩
        have k3 : (a * (k : Int) * k).tmod ((2 * (n : Int))) = a * (k : Int) * k % ((2 * (n : Int))) := Int.tmod_eq_emod_of_nonneg b3
        have k4 : ¬ ((2 * (n : Int))) = 0 := by omega
        have k5 : ¬ n = 0 := by omega
        refine wp_region_ord [0, 1, 2, 3, 4, 5, 6, 7, 8, 9, 10, 11, 12, 13] 12 (fun w' => w'.cell? ⟨w.heap.size + 1 + 1, 0, none⟩ = some (.slice (some ⟨w.heap.size + 1, 0, none⟩) 1 1) ∧ w'.cell? ⟨w.heap.size + 1 + 1, 1, none⟩ = some (.int .i64 (2 * (n : Int))) ∧ w'.cell? ⟨w.heap.size + 1 + 1, 2, none⟩ = some vv) (by kernel_rfl) (by kernel_rfl) (by kernel_rfl) (fun _ _ _ _ _ h => h) hI.reads ?_
        repeat (apply ord_take rfl (by rfl) (by rfl); (focus (intro w hSw; (try dsimp only at hSw); go_simp; (try with_reducible rfl))); (try simp only [Act.put, List.setIfInBounds_toArray, List.set_cons_zero, List.set_cons_succ]))
        refine ord_do rfl (by rfl) (by rfl) (fun K hK => ?_)
        go_simp
        have hJ := hI.drew.alloc (by simp; omega) (.cells #[.int .i64 (a * (k : Int) * k % ((2 * (n : Int))))] 2)
        refine hK.out _ _ (fun _ => hJ.reads) ?_
        (try simp only [Act.put, List.setIfInBounds_toArray, List.set_cons_zero, List.set_cons_succ])
        clear hK K
        refine ord_do rfl (by rfl) (by rfl) (fun K hK => ?_)
        refine wp_push _ _ _ (by rfl) w.heap.size vv xs (by rfl) hJ.vals _ wr.heap.size _ (by rfl) (Blk.new _ _ _) (by rw [hL.out]; omega) (by simp; omega) (by simp) ?_
        intro g cap w2 hP
        have o2 := hJ.pushed hP
        refine hK.out _ _ (fun _ => ⟨o2.cell 0, o2.cell 1, o2.cell 2⟩) ?_
        (try simp only [Act.put, List.setIfInBounds_toArray, List.set_cons_zero, List.set_cons_succ])
        clear hK K
        refine ord_do rfl (by rfl) (by rfl) (fun K hK => ?_)
        go_simp
        refine hK.out _ _ (fun h => absurd h (by omega)) ?_
        (try simp only [Act.put, List.setIfInBounds_toArray, List.set_cons_zero, List.set_cons_succ])
        clear hK K
        have c2' := o2.cell 2
        have f2' := o2.frozen 2
        refine ord_do rfl (by rfl) (by rfl) (fun K hK => ?_)
        go_simp
        refine hK.out _ _ (fun h => absurd h (by omega)) ?_
        (try simp only [Act.put, List.setIfInBounds_toArray, List.set_cons_zero, List.set_cons_succ])
        clear hK K
        refine ord_nil ?_
        clear k1 k2 k3
        go_wp2
        go_roundw
        case rel => exact ⟨k + 1, _, by omega, by go_num, by rw [cycTo_succ, hX.out]; exact hJ.step hP (by simp; omega) (by omega) (by omega) (hI.ordsNe (by omega))⟩
        case measure => simp [intOf]; omega
      · obtain ⟨A, c, rfl⟩ := hI.vals.val
        obtain ⟨o0, o1, o2⟩ := hI.reads
        have hres := hI.res
        have r0 := hres.cell 0
        have r1 := hres.cell 1
        have r2 := hres.cell 2
        have f0 := hres.frozen 0
        have f1 := hres.frozen 1
        have f2 := hres.frozen 2
        go_wp2
        have hb3 := put3_blk (x := .slice (some ⟨w.heap.size + 1, 0, none⟩) 1 1) (y := .int .i64 (2 * (n : Int))) (z := .slice A xs.length c) hres
        have q0 := hb3.cell 0
        have q1 := hb3.cell 1
        have q2 := hb3.cell 2
        unfold put3 at q0 q1 q2
        refine bodyPost_ret (v := .agg #[.slice (some ⟨w.heap.size + 1, 0, none⟩) 1 1, .int .i64 (2 * (n : Int)), .slice A xs.length c]) (by simp [results, Tryz.results81, go_sem, q0, q1, q2]) rfl ?_
        obtain rfl : k = n := by omega
        rw [hX.out]
        exact hI.done1 (Nat.le_refl _)
  · rw [if_neg hp] at hq
    subst hq
    have hpb : ((n : Int) % 2 == 0) = false := by simpa using hp
    clear hp
    go_enter Tryz.func81, Tryz.ntmps81
    go_wp2
    go_loopw [6] (fun x wr => ∃ (k : Nat) (vv : Value), k ≤ n ∧ x = .int .i64 k ∧ MetIn w w.heap.size w.heap.size (w.heap.size + 1 + 1) (.slice (some ⟨w.heap.size + 1, 0, none⟩) 1 1) [(n : Int)] (n : Int) vv (cycTo a (n : Int) k) wr) (fun x _ => n - (intOf x).toNat)
    case atStart =>
      refine ⟨0, _, by omega, rfl, ⟨((Blk.new _ _ _).alloc _).alloc _, (Ow.made' _ _ (w.heap.size + 1) 1 (by simp) rfl (by omega) rfl (by unfold maxLen; omega)).alloc _, Blk.new' _ _ _ _ (by simp), Ow.nil _ _, ?_, ?_⟩⟩
      · intro b _; simp [Value.ownBlock]
      · exact (by repeat (first | assumption | exact Below.refl _ _ | apply below_drewN | apply Below.drew | apply Below.alloc | apply Below.setCell | omega | (focus (simp; done)) | (focus (simp; omega))))
    case round =>
      obtain ⟨k, vv, hk, rfl, hI⟩ := hrel
      obtain ⟨xs, hxs⟩ : ∃ xs, cycTo a (n : Int) k = xs := ⟨_, rfl⟩
      have hlen : xs.length = k := by rw [← hxs, cycTo_len]
      rw [hxs] at hI
      have hX := hide hxs
      have hL := hide hlen
      clear hxs hlen
      have hsz := hI.out.lt
      by_cases hlt : k < n
      · obtain ⟨b1, b2, b3, b4⟩ := cyc_bd a0 a1 hlt h4
        go_wp2
        have k1 : IntKind.i64.wrap (a * (k : Int)) = a * (k : Int) := wr64 _ ⟨by omega, by omega⟩
        have k2 : IntKind.i64.wrap (a * (k : Int) * k) = a * (k : Int) * k := wr64 _ ⟨by omega, by omega⟩
        have k3 : (a * (k : Int) * k).tmod ((n : Int)) = a * (k : Int) * k % ((n : Int)) := Int.tmod_eq_emod_of_nonneg b3
        have k4 : ¬ ((n : Int)) = 0 := by omega
        have k5 : ¬ n = 0 := by omega
        refine wp_region_ord [0, 1, 2, 3, 4, 5, 6, 7, 8, 9, 10, 11, 12, 13] 12 (fun w' => w'.cell? ⟨w.heap.size + 1 + 1, 0, none⟩ = some (.slice (some ⟨w.heap.size + 1, 0, none⟩) 1 1) ∧ w'.cell? ⟨w.heap.size + 1 + 1, 1, none⟩ = some (.int .i64 (n : Int)) ∧ w'.cell? ⟨w.heap.size + 1 + 1, 2, none⟩ = some vv) (by kernel_rfl) (by kernel_rfl) (by kernel_rfl) (fun _ _ _ _ _ h => h) hI.reads ?_
        repeat (apply ord_take rfl (by rfl) (by rfl); (focus (intro w hSw; (try dsimp only at hSw); go_simp; (try with_reducible rfl))); (try simp only [Act.put, List.setIfInBounds_toArray, List.set_cons_zero, List.set_cons_succ]))
        refine ord_do rfl (by rfl) (by rfl) (fun K hK => ?_)
        go_simp
        have hJ := hI.drew.alloc (by simp; omega) (.cells #[.int .i64 (a * (k : Int) * k % ((n : Int)))] 2)
        refine hK.out _ _ (fun _ => hJ.reads) ?_
        (try simp only [Act.put, List.setIfInBounds_toArray, List.set_cons_zero, List.set_cons_succ])
        clear hK K
        refine ord_do rfl (by rfl) (by rfl) (fun K hK => ?_)
        refine wp_push _ _ _ (by rfl) w.heap.size vv xs (by rfl) hJ.vals _ wr.heap.size _ (by rfl) (Blk.new _ _ _) (by rw [hL.out]; omega) (by simp; omega) (by simp) ?_
        intro g cap w2 hP
        have o2 := hJ.pushed hP
        refine hK.out _ _ (fun _ => ⟨o2.cell 0, o2.cell 1, o2.cell 2⟩) ?_
        (try simp only [Act.put, List.setIfInBounds_toArray, List.set_cons_zero, List.set_cons_succ])
        clear hK K
        refine ord_do rfl (by rfl) (by rfl) (fun K hK => ?_)
        go_simp
        refine hK.out _ _ (fun h => absurd h (by omega)) ?_
        (try simp only [Act.put, List.setIfInBounds_toArray, List.set_cons_zero, List.set_cons_succ])
        clear hK K
        have c2' := o2.cell 2
        have f2' := o2.frozen 2
        refine ord_do rfl (by rfl) (by rfl) (fun K hK => ?_)
        go_simp
        refine hK.out _ _ (fun h => absurd h (by omega)) ?_
        (try simp only [Act.put, List.setIfInBounds_toArray, List.set_cons_zero, List.set_cons_succ])
        clear hK K
        refine ord_nil ?_
        clear k1 k2 k3
        go_wp2
        go_roundw
        case rel => exact ⟨k + 1, _, by omega, by go_num, by rw [cycTo_succ, hX.out]; exact hJ.step hP (by simp; omega) (by omega) (by omega) (hI.ordsNe (by omega))⟩
        case measure => simp [intOf]; omega
      · obtain ⟨A, c, rfl⟩ := hI.vals.val
        obtain ⟨o0, o1, o2⟩ := hI.reads
        have hres := hI.res
        have r0 := hres.cell 0
        have r1 := hres.cell 1
        have r2 := hres.cell 2
        have f0 := hres.frozen 0
        have f1 := hres.frozen 1
        have f2 := hres.frozen 2
        go_wp2
        have hb3 := put3_blk (x := .slice (some ⟨w.heap.size + 1, 0, none⟩) 1 1) (y := .int .i64 (n : Int)) (z := .slice A xs.length c) hres
        have q0 := hb3.cell 0
        have q1 := hb3.cell 1
        have q2 := hb3.cell 2
        unfold put3 at q0 q1 q2
        refine bodyPost_ret (v := .agg #[.slice (some ⟨w.heap.size + 1, 0, none⟩) 1 1, .int .i64 (n : Int), .slice A xs.length c]) (by simp [results, Tryz.results81, go_sem, q0, q1, q2]) rfl ?_
        obtain rfl : k = n := by omega
        rw [hX.out]
        exact hI.done1 (Nat.le_refl _)

end Go.Proofs.YtonehmjoolflfaaGreatDoor
