
/- slices.DeleteFunc walked over the closures of isotropicMasks and lagrangianMasks. -/
import Derived.Test.YtbpihnpakolooaaGreatDoorMW1
import Derived.Test.YtbpihnpakolooaaGreatDoorU5
import Derived.Laws.CopyRow
import Derived.Laws.CopyOwn
import GoSem.Builtin.Clear
namespace Go.Proofs.YtbpihnpakolooaaGreatDoor
open Go Go.RowKit Grp
set_option linter.unusedSimpArgs false
set_option linter.unusedVariables false
theorem del_none {p : Int → Bool} {xs : List Int} (h : ∀ j, j < xs.length → p (gi xs j) = false) : xs.filter (fun x => !p x) = xs := by
  rw [List.filter_eq_self]
  intro x hx
  obtain ⟨j, hj, rfl⟩ := List.getElem_of_mem hx
  rw [gi_ext hj, h j hj]; rfl
theorem del_first {p : Int → Bool} {xs : List Int} {i : Nat} (hi : i < xs.length) (hp : p (gi xs i) = true) (h : ∀ j, j < i → p (gi xs j) = false) :
    ((xs.take i).filter fun x => !p x) = xs.take i ∧ ((xs.take (i + 1)).filter fun x => !p x) = xs.take i := by
  have h1 : ((xs.take i).filter fun x => !p x) = xs.take i := del_none fun j hj => by
    simp at hj
    rw [gi_take (by omega)]
    exact h j (by omega)
  refine ⟨h1, ?_⟩
  rw [take_gi hi, List.filter_append, h1]
  simp [hp]
theorem del_keep {p : Int → Bool} {xs ys : List Int} {i j : Nat} (hij : i < j) (hj : j < xs.length) (hl : ys.length = xs.length) (h1 : ys.take i = (xs.take j).filter fun x => !p x) (h2 : ys.drop j = xs.drop j) :
    (p (gi xs j) = true → ys.take i = ((xs.take (j + 1)).filter fun x => !p x) ∧ ys.drop (j + 1) = xs.drop (j + 1)) ∧
    (p (gi xs j) = false → (ys.set i (gi xs j)).take (i + 1) = ((xs.take (j + 1)).filter fun x => !p x) ∧ (ys.set i (gi xs j)).drop (j + 1) = xs.drop (j + 1)) := by
  have h3 : ys.drop (j + 1) = xs.drop (j + 1) := by
    have := congrArg (List.drop 1) h2
    rwa [List.drop_drop, List.drop_drop] at this
  refine ⟨fun hp => ⟨?_, h3⟩, fun hp => ⟨?_, ?_⟩⟩
  · rw [take_gi hj, List.filter_append, h1]; simp [hp]
  · rw [take_gi hj, List.filter_append, ← h1]
    have : (ys.set i (gi xs j)).take (i + 1) = ys.take i ++ [gi xs j] := by
      rw [take_gi (by simp; omega)]
      congr 1
      · rw [List.take_set_of_le (Nat.le_refl _)]
      · simp [gi, show i < ys.length by omega]
    rw [this]; simp [hp]
  · rw [List.drop_set_of_lt (by omega)]; exact h3
theorem run_clear (w : World) (ty : TypeId) (g i n c : Nat) (cur : Array Value) (t : TypeId) (hg : w.heap[g]? = some (.cells cur t (0, 0))) (hn : 0 < n) (hl : i + n ≤ cur.size) :
    (Builtin.clear_ #[24] ty #[.slice (some ⟨g, i, none⟩) n c]).run Tryz.prog w = .ok (.tuple #[]) (w.setRow g (cur.toList.take i ++ List.replicate n (Value.int .i64 0) ++ cur.toList.drop (i + n)).toArray) := by
  have hz : (zeroValue 2).run Tryz.prog w = .ok (.int .i64 0) w := by kernel_rfl
  have hst := run_storeCells_at Tryz.prog g i t (List.replicate n (Value.int .i64 0)) 0 cur w hg (by simpa using hl) (fun v hv => by rw [List.eq_of_mem_replicate hv]; rfl)
  have h0 : n ≠ 0 := by omega
  have e1 : (Builtin.zeroCells (Value.int .i64 0).cells n).toList = List.replicate n (Value.int .i64 0) := by (unfold Builtin.zeroCells; apply List.ext_getElem?; intro j; simp [Value.cells, List.getElem?_replicate]; split <;> simp_all [Nat.mod_one])
  obtain ⟨k, rfl⟩ : ∃ k, n = k + 1 := ⟨n - 1, by omega⟩
  simp [Builtin.clear_, run_underlying Tryz.underlying24, hz, e1]
  rw [hst]
  simp
theorem Ow.cleared {w : World} {B g n cap i : Nat} {ys : List Int} (h : Ow w B (.slice (some ⟨g, 0, none⟩) n cap) ys) (hn : n = ys.length) (hi : i < n) (hB : B ≤ w.heap.size) (hg : B ≤ g) :
    ∃ w5, (∀ ty c, (Builtin.clear_ #[24] ty #[.slice (some ⟨g, i, none⟩) (n - i) c]).run Tryz.prog w = .ok (.tuple #[]) w5) ∧ Ow w5 B (.slice (some ⟨g, 0, none⟩) i cap) (ys.take i) ∧ Below B w w5 := by
  obtain ⟨h1, h2⟩ := h
  rcases h2 with ⟨h2, _⟩ | ⟨g', cap', cur, hv, hg', hh, hnc, hm, hs, hx⟩
  · cases h2
  · injection hv with e1 e2 e3
    injection e1 with e1
    injection e1 with e1
    subst e1 e3
    subst hn
    refine ⟨_, fun ty c => run_clear w ty g i (ys.length - i) c cur _ hh (by omega) (by omega), ?_, below_setRow (Below.refl _ _) hg _⟩
    have hcl : cur.toList.length = cap := by simp; omega
    have hw := setRow_heap w g cur (cur.toList.take i ++ List.replicate (ys.length - i) (Value.int .i64 0) ++ cur.toList.drop (i + (ys.length - i))).toArray _ _ hh
    have hl : (ys.take i).length = i := by simp; omega
    unfold Ow
    rw [hl]
    refine ⟨by simp; omega, .inr ⟨g, cap, _, rfl, hg', hw, by omega, hm, ?_, ?_⟩⟩
    · simp; omega
    · simp only [Nat.mul_one] at hx ⊢
      rw [List.append_assoc, List.take_append_of_le_length (by simp; omega), List.take_take, Nat.min_self]
      have := congrArg (List.take i) hx
      rw [List.take_take, Nat.min_eq_left (by omega), ← List.map_take] at this
      exact this
theorem lagM_first (W w : World) (A : Option Addr) (n c : Nat) (xs : List Int) (p : Int → Bool) (M : Nat) (B : Nat) (hBW : B ≤ W.heap.size) (hx : Sl W W.heap.size A n c xs) (hn : n ≤ 1048576) (hw : Below W.heap.size W w)
    (hcall : ∀ k, k < xs.length → ∀ wd, Below B W wd → Calls Tryz.prog 111 #[.int .i64 (gi xs k), .pointer (some ⟨M, 0, none⟩)] wd (Re wd (.bool (p (gi xs k))))) :
    Calls Tryz.prog 134 #[.slice A n c, .func (.func 111) #[] #[.pointer (some ⟨M, 0, none⟩)]] w (fun e w' => ∃ r : Int, e = .returned (.int .i64 r) ∧ ((r = -1 ∧ ∀ j, j < xs.length → p (gi xs j) = false) ∨ ∃ k : Nat, k < xs.length ∧ r = k ∧ p (gi xs k) = true ∧ ∀ j, j < k → p (gi xs j) = false) ∧ Below W.heap.size W w') := by
  obtain rfl := hx.len
  have HC := hide hcall
  clear hcall
  go_enter Tryz.func134, Tryz.ntmps134
  go_wp2_with fail
  go_loopw [8] (fun i wr => ∃ k : Nat, k ≤ xs.length ∧ i = .int .i64 k ∧ (∀ j, j < k → p (gi xs j) = false) ∧ Below W.heap.size W wr) (fun i _ => xs.length - (intOf i).toNat)
  case atStart => exact ⟨0, by omega, rfl, fun j hj => absurd hj (by omega), hw⟩
  case round =>
    clear hw
    obtain ⟨k, hk, rfl, hpre, hBe⟩ := hrel
    have hP := hide hpre
    clear hpre
    by_cases hlt : k < xs.length
    · obtain ⟨b, off, rfl, hb, hc⟩ := hx.at_ (by omega)
      have c1 := (hBe.cell (p := ⟨b, off + k, none⟩) hb).trans (hc k hlt)
      clear hc
      have hcl := HC.out k hlt
      cases hv : p (gi xs k) with
      | true =>
        have hT := hide hv
        rw [hv] at hcl
        have HL := hide hcl
        clear hv hcl
        go_wp2_with fail
        clear c1
        refine (HL.out _ (hBe.mono hBW)).mono ?_
        rintro e w3 ⟨rfl, hb3⟩
        replace hBe := hBe.trans (hb3.mono hBe.size)
        clear hb3
        go_wp2_with fail
        go_ret
        exact ⟨k, rfl, .inr ⟨k, hlt, rfl, hT.out, hP.out⟩, hBe⟩
      | false =>
        rw [hv] at hcl
        have HL := hide hcl
        have hv' := hide hv
        clear hv hcl
        go_wp2_with fail
        clear c1
        refine (HL.out _ (hBe.mono hBW)).mono ?_
        rintro e w3 ⟨rfl, hb3⟩
        replace hBe := hBe.trans (hb3.mono hBe.size)
        clear hb3
        go_wp2_with fail
        go_roundw
        case rel => exact ⟨k + 1, by omega, by go_num, fun j hj => by rcases Nat.lt_succ_iff_lt_or_eq.1 hj with h | rfl; exact hP.out j h; exact hv'.out, hBe⟩
        case measure => simp [intOf] <;> omega
    · obtain rfl : k = xs.length := by omega
      go_wp2
      go_ret
      exact ⟨-1, rfl, .inl ⟨rfl, hP.out⟩, hBe⟩
theorem lagM_delete (w : World) (v : Value) (xs : List Int) (p : Int → Bool) (M : Nat) (B : Nat) (hO : Ow w B v xs) (hr : ∀ x ∈ xs, i64ok x) (hB : B ≤ w.heap.size) (hn : xs.length ≤ 1048576)
    (hcall : ∀ k, k < xs.length → ∀ wd, Below B w wd → Calls Tryz.prog 111 #[.int .i64 (gi xs k), .pointer (some ⟨M, 0, none⟩)] wd (Re wd (.bool (p (gi xs k))))) :
    Calls Tryz.prog 110 #[v, .func (.func 111) #[] #[.pointer (some ⟨M, 0, none⟩)]] w (fun e w' => ∃ v', e = .returned v' ∧ Ow w' B v' (xs.filter fun x => !p x) ∧ Below B w w') := by
  obtain ⟨A, c, rfl, hS⟩ := hO.sl hr
  obtain ⟨n, hnn⟩ : ∃ n, n = xs.length := ⟨_, rfl⟩
  have HN := hide hnn
  rw [← hnn] at hO hS hn ⊢
  have HI := hide (lagM_first w w A n c xs p M B hB hS hn (Below.refl _ _) hcall)
  have HC := hide hcall
  clear hcall hr hnn
  go_enter Tryz.func110, Tryz.ntmps110
  go_wp2_with fail
  refine HI.out.mono ?_
  rintro e w1 ⟨r, rfl, hr, hb1⟩
  replace hO := hO.below hb1
  have hBe := hb1.mono hB
  have hB1 : B ≤ w1.heap.size := Nat.le_trans hB hb1.size
  clear hb1 hS HI
  rw [← HN.out] at hr
  rcases hr with ⟨rfl, hno⟩ | ⟨i, hi, rfl, hpi, hpre⟩
  · have hE := hide (show xs.filter (fun x => !p x) = xs from del_none (by rw [← HN.out]; exact hno))
    clear hno
    go_wp2_with fail
    go_ret
    exact ⟨_, rfl, by rw [hE.out]; exact hO, hBe⟩
  · rcases hO.form with ⟨_, e2⟩ | ⟨g, cap, e1, hg, hgl, hcap⟩
    · have := HN.out; rw [e2] at this; simp at this; omega
    rw [← HN.out] at hcap
    injection e1 with e1 e2 e3
    clear e2
    subst e1 e3
    have hi1 : ((i : Int) == -1) = false := by rw [beq_eq_false_iff_ne]; omega
    have hi2 : (i : Int) ≤ 1048576 := by omega
    have HT := hide (show ((xs.take i).filter fun x => !p x) = xs.take i ∧ ((xs.take (i + 1)).filter fun x => !p x) = xs.take i from del_first (by rw [← HN.out]; exact hi) hpi hpre)
    clear hpi hpre
    go_wp2_with fail
    go_loopw [5, 6] (fun a b wr => ∃ (i j : Nat) (ys : List Int), i < j ∧ j ≤ n ∧ a = .int .i64 i ∧ b = .int .i64 j ∧ ys.length = n ∧ Hid (ys.take i = (xs.take j).filter (fun x => !p x) ∧ ys.drop j = xs.drop j) ∧ Ow wr B (.slice (some ⟨g, 0, none⟩) n c) ys ∧ Below B w wr) (fun _ b _ => n - (intOf b).toNat)
    case atStart => exact ⟨i, i + 1, xs, by omega, by omega, rfl, by go_num, HN.out.symm, hide ⟨HT.out.2.symm, rfl⟩, hO, hBe⟩
    case round =>
      clear hO hBe HT hi1 hi2 hi hgl
      obtain ⟨i, j, ys, hij, hj, rfl, rfl, hyl, hY, hO, hBe⟩ := hrel
      have hOl := (hO.lt g rfl).2
      by_cases hlt : j < n
      · have hlx : j < xs.length := by rw [← HN.out]; exact hlt
        have c1 := hO.cell hyl.symm hlt
        have hgj : gi ys j = gi xs j := by
          have h1 := hY.out.2
          have h2 : (ys.drop j)[0]? = (xs.drop j)[0]? := by rw [h1]
          rw [List.getElem?_drop, List.getElem?_drop, Nat.add_zero, gi_get (by omega), gi_get hlx] at h2
          exact Option.some.inj h2
        rw [hgj] at c1
        have hcl := HC.out j hlx
        have HK := hide (del_keep hij hlx (hyl.trans HN.out) hY.out.1 hY.out.2 (p := p))
        clear hlx
        obtain ⟨x, ex⟩ : ∃ x, gi xs j = x := ⟨_, rfl⟩
        rw [ex] at c1 hcl HK
        have hE := hide ex
        clear ex hgj
        have HL := hide hcl
        clear hcl
        cases hv : p x with
        | true =>
          have hv' := hide hv
          have HK' := hide (HK.out.1 hv)
          rw [hv] at HL
          clear hv HK
          go_wp2_with fail
          refine (HL.out _ hBe).mono ?_
          rintro e w3 ⟨rfl, hb3⟩
          replace hO := hO.below hb3
          replace hBe := hBe.trans (hb3.mono (Nat.le_trans hB hBe.size))
          clear hb3 c1
          go_wp2_with fail
          go_roundw
          case rel => exact ⟨i, j + 1, ys, by omega, by omega, by go_num, by go_num, hyl, HK', hO, hBe⟩
          case measure => simp [intOf] <;> omega
        | false =>
          have HK' := hide (HK.out.2 hv)
          rw [hv] at HL
          clear hv HK
          go_wp2_with fail
          refine (HL.out _ hBe).mono ?_
          rintro e w3 ⟨rfl, hb3⟩
          replace hO := hO.below hb3
          replace hBe := hBe.trans (hb3.mono (Nat.le_trans hB hBe.size))
          clear hb3 c1
          have hin : i < n := by omega
          have c2 := hO.cell hyl.symm hin
          have f2 := hO.frozen hyl.symm i
          have hO2 := hO.store hyl.symm i x
          go_wp2_with fail
          go_roundw
          case rel => exact ⟨i + 1, j + 1, ys.set i x, by omega, by omega, by go_num, by go_num, by simpa using hyl, HK', hO2, hBe.setCell hg _⟩
          case measure => simp [intOf] <;> omega
      · obtain rfl : j = n := by omega
        have hF := hide (show ys.take i = xs.filter (fun x => !p x) by have := hY.out.1; rw [HN.out] at this; rwa [List.take_length] at this)
        obtain ⟨w5, hcl, hO5, hB5⟩ := hO.cleared hyl.symm hij (Nat.le_trans hB hBe.size) hg
        clear HC hY
        have hi0 : ¬ c - i = 0 := by omega
        have hi0' : ¬ (c : Int) - (i : Int) = 0 := by omega
        have hji : ¬ j - i = 0 := by omega
        go_wp2_with fail
        go_ret
        exact ⟨_, rfl, by rw [← hF.out]; exact hO5, hBe.trans hB5⟩
theorem isoM_first (W w : World) (A : Option Addr) (n c : Nat) (xs : List Int) (p : Int → Bool) (M : Nat) (B : Nat) (hBW : B ≤ W.heap.size) (hx : Sl W W.heap.size A n c xs) (hn : n ≤ 1048576) (hw : Below W.heap.size W w)
    (hcall : ∀ k, k < xs.length → ∀ wd, Below B W wd → Calls Tryz.prog 113 #[.int .i64 (gi xs k), .pointer (some ⟨M, 0, none⟩)] wd (Re wd (.bool (p (gi xs k))))) :
    Calls Tryz.prog 134 #[.slice A n c, .func (.func 113) #[] #[.pointer (some ⟨M, 0, none⟩)]] w (fun e w' => ∃ r : Int, e = .returned (.int .i64 r) ∧ ((r = -1 ∧ ∀ j, j < xs.length → p (gi xs j) = false) ∨ ∃ k : Nat, k < xs.length ∧ r = k ∧ p (gi xs k) = true ∧ ∀ j, j < k → p (gi xs j) = false) ∧ Below W.heap.size W w') := by
  obtain rfl := hx.len
  have HC := hide hcall
  clear hcall
  go_enter Tryz.func134, Tryz.ntmps134
  go_wp2_with fail
  go_loopw [8] (fun i wr => ∃ k : Nat, k ≤ xs.length ∧ i = .int .i64 k ∧ (∀ j, j < k → p (gi xs j) = false) ∧ Below W.heap.size W wr) (fun i _ => xs.length - (intOf i).toNat)
  case atStart => exact ⟨0, by omega, rfl, fun j hj => absurd hj (by omega), hw⟩
  case round =>
    clear hw
    obtain ⟨k, hk, rfl, hpre, hBe⟩ := hrel
    have hP := hide hpre
    clear hpre
    by_cases hlt : k < xs.length
    · obtain ⟨b, off, rfl, hb, hc⟩ := hx.at_ (by omega)
      have c1 := (hBe.cell (p := ⟨b, off + k, none⟩) hb).trans (hc k hlt)
      clear hc
      have hcl := HC.out k hlt
      cases hv : p (gi xs k) with
      | true =>
        have hT := hide hv
        rw [hv] at hcl
        have HL := hide hcl
        clear hv hcl
        go_wp2_with fail
        clear c1
        refine (HL.out _ (hBe.mono hBW)).mono ?_
        rintro e w3 ⟨rfl, hb3⟩
        replace hBe := hBe.trans (hb3.mono hBe.size)
        clear hb3
        go_wp2_with fail
        go_ret
        exact ⟨k, rfl, .inr ⟨k, hlt, rfl, hT.out, hP.out⟩, hBe⟩
      | false =>
        rw [hv] at hcl
        have HL := hide hcl
        have hv' := hide hv
        clear hv hcl
        go_wp2_with fail
        clear c1
        refine (HL.out _ (hBe.mono hBW)).mono ?_
        rintro e w3 ⟨rfl, hb3⟩
        replace hBe := hBe.trans (hb3.mono hBe.size)
        clear hb3
        go_wp2_with fail
        go_roundw
        case rel => exact ⟨k + 1, by omega, by go_num, fun j hj => by rcases Nat.lt_succ_iff_lt_or_eq.1 hj with h | rfl; exact hP.out j h; exact hv'.out, hBe⟩
        case measure => simp [intOf] <;> omega
    · obtain rfl : k = xs.length := by omega
      go_wp2
      go_ret
      exact ⟨-1, rfl, .inl ⟨rfl, hP.out⟩, hBe⟩
theorem isoM_delete (w : World) (v : Value) (xs : List Int) (p : Int → Bool) (M : Nat) (B : Nat) (hO : Ow w B v xs) (hr : ∀ x ∈ xs, i64ok x) (hB : B ≤ w.heap.size) (hn : xs.length ≤ 1048576)
    (hcall : ∀ k, k < xs.length → ∀ wd, Below B w wd → Calls Tryz.prog 113 #[.int .i64 (gi xs k), .pointer (some ⟨M, 0, none⟩)] wd (Re wd (.bool (p (gi xs k))))) :
    Calls Tryz.prog 110 #[v, .func (.func 113) #[] #[.pointer (some ⟨M, 0, none⟩)]] w (fun e w' => ∃ v', e = .returned v' ∧ Ow w' B v' (xs.filter fun x => !p x) ∧ Below B w w') := by
  obtain ⟨A, c, rfl, hS⟩ := hO.sl hr
  obtain ⟨n, hnn⟩ : ∃ n, n = xs.length := ⟨_, rfl⟩
  have HN := hide hnn
  rw [← hnn] at hO hS hn ⊢
  have HI := hide (isoM_first w w A n c xs p M B hB hS hn (Below.refl _ _) hcall)
  have HC := hide hcall
  clear hcall hr hnn
  go_enter Tryz.func110, Tryz.ntmps110
  go_wp2_with fail
  refine HI.out.mono ?_
  rintro e w1 ⟨r, rfl, hr, hb1⟩
  replace hO := hO.below hb1
  have hBe := hb1.mono hB
  have hB1 : B ≤ w1.heap.size := Nat.le_trans hB hb1.size
  clear hb1 hS HI
  rw [← HN.out] at hr
  rcases hr with ⟨rfl, hno⟩ | ⟨i, hi, rfl, hpi, hpre⟩
  · have hE := hide (show xs.filter (fun x => !p x) = xs from del_none (by rw [← HN.out]; exact hno))
    clear hno
    go_wp2_with fail
    go_ret
    exact ⟨_, rfl, by rw [hE.out]; exact hO, hBe⟩
  · rcases hO.form with ⟨_, e2⟩ | ⟨g, cap, e1, hg, hgl, hcap⟩
    · have := HN.out; rw [e2] at this; simp at this; omega
    rw [← HN.out] at hcap
    injection e1 with e1 e2 e3
    clear e2
    subst e1 e3
    have hi1 : ((i : Int) == -1) = false := by rw [beq_eq_false_iff_ne]; omega
    have hi2 : (i : Int) ≤ 1048576 := by omega
    have HT := hide (show ((xs.take i).filter fun x => !p x) = xs.take i ∧ ((xs.take (i + 1)).filter fun x => !p x) = xs.take i from del_first (by rw [← HN.out]; exact hi) hpi hpre)
    clear hpi hpre
    go_wp2_with fail
    go_loopw [5, 6] (fun a b wr => ∃ (i j : Nat) (ys : List Int), i < j ∧ j ≤ n ∧ a = .int .i64 i ∧ b = .int .i64 j ∧ ys.length = n ∧ Hid (ys.take i = (xs.take j).filter (fun x => !p x) ∧ ys.drop j = xs.drop j) ∧ Ow wr B (.slice (some ⟨g, 0, none⟩) n c) ys ∧ Below B w wr) (fun _ b _ => n - (intOf b).toNat)
    case atStart => exact ⟨i, i + 1, xs, by omega, by omega, rfl, by go_num, HN.out.symm, hide ⟨HT.out.2.symm, rfl⟩, hO, hBe⟩
    case round =>
      clear hO hBe HT hi1 hi2 hi hgl
      obtain ⟨i, j, ys, hij, hj, rfl, rfl, hyl, hY, hO, hBe⟩ := hrel
      have hOl := (hO.lt g rfl).2
      by_cases hlt : j < n
      · have hlx : j < xs.length := by rw [← HN.out]; exact hlt
        have c1 := hO.cell hyl.symm hlt
        have hgj : gi ys j = gi xs j := by
          have h1 := hY.out.2
          have h2 : (ys.drop j)[0]? = (xs.drop j)[0]? := by rw [h1]
          rw [List.getElem?_drop, List.getElem?_drop, Nat.add_zero, gi_get (by omega), gi_get hlx] at h2
          exact Option.some.inj h2
        rw [hgj] at c1
        have hcl := HC.out j hlx
        have HK := hide (del_keep hij hlx (hyl.trans HN.out) hY.out.1 hY.out.2 (p := p))
        clear hlx
        obtain ⟨x, ex⟩ : ∃ x, gi xs j = x := ⟨_, rfl⟩
        rw [ex] at c1 hcl HK
        have hE := hide ex
        clear ex hgj
        have HL := hide hcl
        clear hcl
        cases hv : p x with
        | true =>
          have hv' := hide hv
          have HK' := hide (HK.out.1 hv)
          rw [hv] at HL
          clear hv HK
          go_wp2_with fail
          refine (HL.out _ hBe).mono ?_
          rintro e w3 ⟨rfl, hb3⟩
          replace hO := hO.below hb3
          replace hBe := hBe.trans (hb3.mono (Nat.le_trans hB hBe.size))
          clear hb3 c1
          go_wp2_with fail
          go_roundw
          case rel => exact ⟨i, j + 1, ys, by omega, by omega, by go_num, by go_num, hyl, HK', hO, hBe⟩
          case measure => simp [intOf] <;> omega
        | false =>
          have HK' := hide (HK.out.2 hv)
          rw [hv] at HL
          clear hv HK
          go_wp2_with fail
          refine (HL.out _ hBe).mono ?_
          rintro e w3 ⟨rfl, hb3⟩
          replace hO := hO.below hb3
          replace hBe := hBe.trans (hb3.mono (Nat.le_trans hB hBe.size))
          clear hb3 c1
          have hin : i < n := by omega
          have c2 := hO.cell hyl.symm hin
          have f2 := hO.frozen hyl.symm i
          have hO2 := hO.store hyl.symm i x
          go_wp2_with fail
          go_roundw
          case rel => exact ⟨i + 1, j + 1, ys.set i x, by omega, by omega, by go_num, by go_num, by simpa using hyl, HK', hO2, hBe.setCell hg _⟩
          case measure => simp [intOf] <;> omega
      · obtain rfl : j = n := by omega
        have hF := hide (show ys.take i = xs.filter (fun x => !p x) by have := hY.out.1; rw [HN.out] at this; rwa [List.take_length] at this)
        obtain ⟨w5, hcl, hO5, hB5⟩ := hO.cleared hyl.symm hij (Nat.le_trans hB hBe.size) hg
        clear HC hY
        have hi0 : ¬ c - i = 0 := by omega
        have hi0' : ¬ (c : Int) - (i : Int) = 0 := by omega
        have hji : ¬ j - i = 0 := by omega
        go_wp2_with fail
        go_ret
        exact ⟨_, rfl, by rw [← hF.out]; exact hO5, hBe.trans hB5⟩
end Go.Proofs.YtbpihnpakolooaaGreatDoor
