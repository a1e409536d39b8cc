
/- The walks of within, l01In, Metric.rest, isOrder, l01Divisor. The walk of groupSize. The library's iterator slices.Backward over a slice of int64: what it hands to a loop's body. The same as Ord for a region without calls inside a fence (the body of a loop over an iterator): each operation's run is told outright. The walk of impl.addElements: a loop over slices.Backward. The walk of allWithin. -/
import Derived.Test.YtonehmjoolflfaaGreatDoorBa
import Derived.WalkLawsBesides
import Derived.RangeFuncNested
import Derived.RangeFuncBound
import Derived.RangeFuncCalls
import Derived.RangeFuncLeaves
import Derived.RangeFuncBox
import Derived.RangeFuncWrites
import Derived.Shelf.Abstract
import Derived.Shelf.RegionOpen
import Derived.OwnWalkIn
import Derived.TacticsInMore
import Derived.LoopNIn
import Derived.LoopIn
import Derived.OrdersIn
import Derived.TacticsIn
namespace Go.Proofs.YtonehmjoolflfaaGreatDoor
open Go Go.RowKit Go.Shelf
set_option linter.unusedSimpArgs false
set_option linter.unusedVariables false

def inB (n lo hi : Int) : Bool := decide (lo ≤ n ∧ n ≤ hi)
theorem inB_t {n lo hi : Int} (h : lo ≤ n) (h' : n ≤ hi) : inB n lo hi = true := by simp [inB, h, h']
theorem inB_f1 {n lo hi : Int} (h : ¬ lo ≤ n) : inB n lo hi = false := by simp [inB, h]
theorem inB_f2 {n lo hi : Int} (h : ¬ n ≤ hi) : inB n lo hi = false := by simp [inB, h]

theorem within_any (n lo hi : Int) (w : World) : Calls Tryz.prog 32 #[.int .i64 n, .int .i64 lo, .int .i64 hi] w (Qt w (.bool (inB n lo hi))) := by
  by_cases h1 : lo ≤ n
  · by_cases h2 : n ≤ hi
    · rw [inB_t h1 h2]
      go_enter Tryz.func32, Tryz.ntmps32
      go_wp2
      go_ret
      exact Qt.same
    · rw [inB_f2 h2]
      go_enter Tryz.func32, Tryz.ntmps32
      go_wp2
      go_ret
      exact Qt.same
  · rw [inB_f1 h1]
    go_enter Tryz.func32, Tryz.ntmps32
    go_wp2
    go_ret
    exact Qt.same
theorem l01In_any (n lo hi : Int) (w : World) : Calls Tryz.prog 66 #[.int .i64 n, .int .i64 lo, .int .i64 hi] w (Qt w (.bool (inB n lo hi))) := by
  by_cases h1 : lo ≤ n
  · by_cases h2 : n ≤ hi
    · rw [inB_t h1 h2]
      go_enter Tryz.func66, Tryz.ntmps66
      go_wp2
      go_ret
      exact Qt.same
    · rw [inB_f2 h2]
      go_enter Tryz.func66, Tryz.ntmps66
      go_wp2
      go_ret
      exact Qt.same
  · rw [inB_f1 h1]
    go_enter Tryz.func66, Tryz.ntmps66
    go_wp2
    go_ret
    exact Qt.same
theorem inB_f {n lo hi : Int} (h : ¬ (lo ≤ n ∧ n ≤ hi)) : inB n lo hi = false := by simp only [inB, h, decide_false]
theorem within_t (n lo hi : Int) (w : World) (h1 : lo ≤ n) (h2 : n ≤ hi) : Calls Tryz.prog 32 #[.int .i64 n, .int .i64 lo, .int .i64 hi] w (Qt w (.bool true)) := by
  have := within_any n lo hi w; rwa [inB_t h1 h2] at this
theorem within_f (n lo hi : Int) (w : World) (h : ¬ (lo ≤ n ∧ n ≤ hi)) : Calls Tryz.prog 32 #[.int .i64 n, .int .i64 lo, .int .i64 hi] w (Qt w (.bool false)) := by
  have := within_any n lo hi w; rwa [inB_f h] at this
theorem l01In_t (n lo hi : Int) (w : World) (h1 : lo ≤ n) (h2 : n ≤ hi) : Calls Tryz.prog 66 #[.int .i64 n, .int .i64 lo, .int .i64 hi] w (Qt w (.bool true)) := by
  have := l01In_any n lo hi w; rwa [inB_t h1 h2] at this
theorem l01In_f (n lo hi : Int) (w : World) (h : ¬ (lo ≤ n ∧ n ≤ hi)) : Calls Tryz.prog 66 #[.int .i64 n, .int .i64 lo, .int .i64 hi] w (Qt w (.bool false)) := by
  have := l01In_any n lo hi w; rwa [inB_f h] at this

theorem rest_eq (n q : Int) (hq : 1 ≤ q) : (n.tmod q + q).tmod q = n % q := by
  have h2 : 0 ≤ n.tmod q + q := by
    have := Int.lt_tmod_of_pos n (show 0 < q by omega)
    omega
  rw [Int.tmod_eq_emod_of_nonneg h2, Int.add_emod_right]
  rw [Int.tmod_def, Int.sub_mul_emod_self_left]

theorem rest_any (o v : Value) (q n : Int) (w : World) (h1 : 1 ≤ q) (h2 : q ≤ 1000000000) :
    Calls Tryz.prog 92 #[.agg #[o, .int .i64 q, v], .int .i64 n] w (Re w (.int .i64 (n % q))) := by
  have k1 : IntKind.i64.wrap (n.tmod q + q) = n.tmod q + q := by
    refine wr64 _ ⟨?_, ?_⟩
    · have := Int.lt_tmod_of_pos n (show 0 < q by omega); omega
    · have := Int.tmod_lt_of_pos n (show 0 < q by omega); omega
  have k2 : ¬ q = 0 := by omega
  have k3 := rest_eq n q h1
  go_enter Tryz.func92, Tryz.ntmps92
  go_wp2
  go_quiet (fail)
  go_wp2
  go_ret
  exact ⟨rfl, (by repeat (first | assumption | exact Below.refl _ _ | apply below_drewN | apply Below.drew | apply Below.alloc | apply Below.setCell | omega | (focus (simp; done)) | (focus (simp; omega))))⟩

def ordB (n : Int) : Bool := decide (1 ≤ n ∧ (55440 : Int) % n = 0)
theorem ordB_t {n : Int} (h : 1 ≤ n) (h2 : (55440 : Int) % n = 0) : ordB n = true := by simp [ordB, h, h2]
theorem ordB_f1 {n : Int} (h : ¬ 1 ≤ n) : ordB n = false := by simp [ordB, h]
theorem ordB_f2 {n : Int} (h2 : ¬ (55440 : Int) % n = 0) : ordB n = false := by simp [ordB, h2]
theorem ordB_iff {n : Int} : ordB n = true ↔ 1 ≤ n ∧ (55440 : Int) % n = 0 := by simp [ordB]

theorem isOrder_any (n : Int) (w : World) : Calls Tryz.prog 54 #[.int .i64 n] w (Qt w (.bool (ordB n))) := by
  by_cases h1 : 1 ≤ n
  · have h0 : ¬ n = 0 := by omega
    have h0' : (n == 0) = false := by simpa using h0
    by_cases h2 : (55440 : Int) % n = 0
    · rw [ordB_t h1 h2]
      have k : ((55440 : Int) % n == 0) = true := by simpa using h2
      have H := hide h2
      clear h2
      go_enter Tryz.func54, Tryz.ntmps54
      go_wp2
      go_ret
      exact Qt.same
    · rw [ordB_f2 h2]
      have k : ((55440 : Int) % n == 0) = false := by simpa using h2
      go_enter Tryz.func54, Tryz.ntmps54
      go_wp2
      go_ret
      exact Qt.same
  · rw [ordB_f1 h1]
    have k : decide (1 ≤ n) = false := by simpa using h1
    go_enter Tryz.func54, Tryz.ntmps54
    go_wp2
    go_ret
    exact Qt.same
theorem l01Divisor_any (n : Int) (w : World) : Calls Tryz.prog 49 #[.int .i64 n] w (Qt w (.bool (ordB n))) := by
  by_cases h1 : 1 ≤ n
  · have h0 : ¬ n = 0 := by omega
    have h0' : (n == 0) = false := by simpa using h0
    by_cases h2 : (55440 : Int) % n = 0
    · rw [ordB_t h1 h2]
      have k : ((55440 : Int) % n == 0) = true := by simpa using h2
      have H := hide h2
      clear h2
      go_enter Tryz.func49, Tryz.ntmps49
      go_wp2
      go_ret
      exact Qt.same
    · rw [ordB_f2 h2]
      have k : ((55440 : Int) % n == 0) = false := by simpa using h2
      go_enter Tryz.func49, Tryz.ntmps49
      go_wp2
      go_ret
      exact Qt.same
  · rw [ordB_f1 h1]
    have k : decide (1 ≤ n) = false := by simpa using h1
    go_enter Tryz.func49, Tryz.ntmps49
    go_wp2
    go_ret
    exact Qt.same

theorem within_v (b : Bool) (n lo hi : Int) (w : World) (h : inB n lo hi = b) : Calls Tryz.prog 32 #[.int .i64 n, .int .i64 lo, .int .i64 hi] w (Qt w (.bool b)) := h ▸ within_any n lo hi w
theorem isOrder_v (b : Bool) (n : Int) (w : World) (h : ordB n = b) : Calls Tryz.prog 54 #[.int .i64 n] w (Qt w (.bool b)) := h ▸ isOrder_any n w
theorem l01In_v (b : Bool) (n lo hi : Int) (w : World) (h : inB n lo hi = b) : Calls Tryz.prog 66 #[.int .i64 n, .int .i64 lo, .int .i64 hi] w (Qt w (.bool b)) := h ▸ l01In_any n lo hi w
theorem l01Divisor_v (b : Bool) (n : Int) (w : World) (h : ordB n = b) : Calls Tryz.prog 49 #[.int .i64 n] w (Qt w (.bool b)) := h ▸ l01Divisor_any n w

/-- The size of the group of orders, 17 for a greater one, 0 where an order is less than 1. -/
def gsL (s : Int) : List Int → Int
  | [] => s
  | m :: r => if m < 1 then 0 else gsL (min 17 (s * min m 17)) r
def gsz (os : List Int) : Int := if os = [] then 0 else gsL 1 os

theorem gs_bd {s m : Int} (h0 : 1 ≤ s) (h1 : s ≤ 17) (hm : ¬ m < 1) : 1 ≤ s * min m 17 ∧ s * min m 17 ≤ 289 := by
  have a1 : 1 ≤ min m 17 := by omega
  have a2 : min m 17 ≤ 17 := by omega
  have e1 : 1 * 1 ≤ s * min m 17 := Int.mul_le_mul h0 a1 (by omega) (by omega)
  have e2 : s * min m 17 ≤ 17 * 17 := Int.mul_le_mul h1 a2 (by omega) (by omega)
  exact ⟨by omega, by omega⟩

theorem gs_step {q m : Int} (h0 : 1 ≤ q) (h1 : q ≤ 17) (hm : ¬ m < 1) :
    (if wrap64 (q * if 17 < m then 17 else m) < 17 then wrap64 (q * if 17 < m then 17 else m) else 17) = min 17 (q * min m 17) := by
  obtain ⟨e1, e2⟩ := gs_bd h0 h1 hm
  have e : (if 17 < m then (17 : Int) else m) = min m 17 := by split <;> omega
  rw [e, wrap64_ok _ ⟨by omega, by omega⟩]
  split <;> omega
theorem groupSize_any (w : World) (B : Nat) (A : Option Addr) (n c : Nat) (xs : List Int) (h : Sl w B A n c xs) (hn : n ≤ 1073741824) : Calls Tryz.prog 56 #[.slice A n c] w (Qt w (.int .i64 (gsz xs))) := by
  by_cases hn0 : n = 0
  · obtain rfl := hn0
    obtain rfl := List.eq_nil_of_length_eq_zero h.len
    go_enter Tryz.func56, Tryz.ntmps56
    go_wp2
    refine wp_loop_rounds 1 ?_
    rw [rounds_succ]
    go_wp2
    go_ret
    exact Qt.mk' 0 rfl rfl
  · have hg : gsz xs = gsL 1 xs := by unfold gsz; rw [if_neg (by rintro rfl; exact hn0 h.len.symm)]
    have hnb : ((n : Int) == 0) = false := by rw [beq_eq_false_iff_ne]; omega
    have hG := hide hg
    clear hg
    go_enter Tryz.func56, Tryz.ntmps56
    go_wp2
    go_loop [3, 8] (fun s i => ∃ (k : Nat) (q : Int), k ≤ n ∧ i = .int .i64 k ∧ s = .int .i64 q ∧ 1 ≤ q ∧ q ≤ 17 ∧ gsL 1 xs = gsL q (xs.drop k)) (fun _ i => n - (intOf i).toNat)
    case atStart => exact ⟨0, 1, by omega, rfl, rfl, by omega, by omega, rfl⟩
    case round =>
      obtain ⟨k, q, hk, rfl, rfl, hq1, hq2, hpre⟩ := hrel
      have hP := hide hpre
      clear hpre
      by_cases hlt : k < n
      · obtain ⟨b, off, rfl, hb, hc⟩ := h.at_ (by omega)
        have c1 := hc k hlt
        clear hc
        have hst : gsL 1 xs = gsL q (gi xs k :: xs.drop (k + 1)) := by rw [hP.out, drop_gi (by rw [h.len]; exact hlt)]
        have hS := hide hst
        clear hst
        by_cases hm : gi xs k < 1
        · go_wp2
          go_ret
          exact Qt.mk' 0 rfl (int_eq (by rw [hG.out, hS.out, gsL, if_pos hm]))
        · obtain ⟨e1, e2⟩ := gs_bd hq1 hq2 hm
          go_wp2
          go_round
          case rel => exact ⟨k + 1, min 17 (q * min (gi xs k) 17), by omega, by go_num, int_eq (gs_step hq1 hq2 hm), by omega, by omega, by rw [hS.out, gsL, if_neg (by omega)]⟩
          case measure => simp [intOf]; omega
      · go_wp2
        go_ret
        exact Qt.mk' 0 rfl (int_eq (by rw [hG.out, hP.out, List.drop_of_length_le (by rw [h.len]; omega)]; rfl))

attribute [local go_sem] Oper.semAt_some

/-- What has come when k rounds are over: f 0, .., f (k - 1). -/
def upTo {α : Type} (f : Nat → α) (k : Nat) : List α := (List.range k).map f
theorem upTo_succ {α : Type} (f : Nat → α) (k : Nat) : upTo f (k + 1) = upTo f k ++ [f k] := by simp [upTo, List.range_succ]
theorem upTo_length {α : Type} (f : Nat → α) (k : Nat) : (upTo f k).length = k := by simp [upTo]

/-- What a round keeps: all that lay below n₀, and the box of the slice. -/
def KpB (n₀ Bs : Nat) (W W' : World) : Prop := Below n₀ W W' ∧ ∀ v, W.cell? ⟨Bs, 0, none⟩ = some v → W'.cell? ⟨Bs, 0, none⟩ = some v
theorem KpB.refl (n₀ Bs : Nat) (W : World) : KpB n₀ Bs W W := ⟨Below.refl _ _, fun _ h => h⟩
theorem KpB.trans {n₀ Bs : Nat} {A B C : World} (h : KpB n₀ Bs A B) (k : KpB n₀ Bs B C) : KpB n₀ Bs A C := ⟨h.1.trans k.1, fun v hv => k.2 v (h.2 v hv)⟩
theorem KpB.obj {n₀ Bs : Nat} {w : World} (hn : n₀ ≤ w.heap.size) (W : World) (l : Nat) (o o' : Obj) (hl : w.heap.size ≤ l) (h : W.heap[l]? = some o) (hc : o.isCells = false) (hw : o.isWalk = false) : KpB n₀ Bs W (W.putObj l o') := by
  refine ⟨belowK_b hn W l o o' hl h hc hw, fun v hv => ?_⟩
  have hne : Bs ≠ l := by
    rintro rfl
    simp only [World.cell?, h] at hv
    cases o <;> simp [Obj.isCells] at hc hv
  refine Eq.trans ?_ hv
  exact World.cell?_of_block ((grownBy_putObj' W l o').block Bs (by
    have := World.block_lt_of_cell? _ _ hv
    exact this) (fun e => hne (by injection e)))

set_option maxRecDepth 100000 in
set_option maxHeartbeats 2000000 in
theorem bw1_in {α : Type} (encs : α → Array Value) (f : Nat → α) (F : Fence) (N : Nat) (hF : F.fn 111) (hro : F.round = none) (hN : 1 ≤ N) (l Bs n₀ n c : Nat) (A : Option Addr) (zs : List Int) (hn : n ≤ 1073741824)
    (hf : ∀ k, k < n → encs (f k) = #[.int .i64 ((n : Int) - 1 - k), .int .i64 (gi zs (n - 1 - k))]) (J Jx : List α → World → Prop)
    (hY : ∀ pre x W, J pre W → pre.length < n → YieldAt F (N - 1) Tryz.prog l (encs x) W fun e W' =>
      (e = .returned (.bool true) ∧ J (pre ++ [x]) W' ∧ KpB n₀ Bs W W') ∨ (e = .returned (.bool false) ∧ Jx (pre ++ [x]) W'))
    (W : World) (hBs : W.cell? ⟨Bs, 0, none⟩ = some (.slice A n c)) (h : Sl W n₀ A n c zs) (h0 : J [] W) :
    CallsIn F N Tryz.prog 111 #[.func (.yield l) #[] #[], .pointer (some ⟨Bs, 0, none⟩)] W fun e W' => (∃ v, e = .returned v) ∧
      ((∃ ys, ys = upTo f n ∧ J ys W') ∨ (∃ pre, (∃ k, k ≤ n ∧ pre = upTo f k) ∧ Jx pre W')) := by
  refine callsIn_of_wp Tryz.func111 rfl hF ?_ hro
  simp only [Tryz.ntmps111, List.size_toArray, List.length_cons, List.length_nil, Nat.reduceAdd, Nat.reduceSub, Array.replicate_succ, Array.replicate_zero, List.push_toArray, List.append_toArray, List.nil_append, List.cons_append]
  gi_wp2
  gi_loopw [3] (fun i wr => ∃ k : Nat, k ≤ n ∧ i = .int .i64 ((n : Int) - 1 - k) ∧ J (upTo f k) wr ∧ KpB n₀ Bs W wr)
    (fun i _ => (intOf i + 1).toNat)
  case atStart => exact ⟨0, Nat.zero_le _, by simp, h0, KpB.refl _ _ _⟩
  case round =>
    obtain ⟨k, hk, rfl, hJs, hnx⟩ := hrel
    by_cases hlt : k < n
    · obtain ⟨b, off, rfl, hb, hc⟩ := h.at_ (by omega)
      have hcx : wr.cell? ⟨b, off + (n - 1 - k), none⟩ = some (.int .i64 (gi zs (n - 1 - k))) := (hnx.1.cell (p := ⟨b, _, none⟩) hb).trans (hc (n - 1 - k) (by omega))
      have hBx : wr.cell? ⟨Bs, 0, none⟩ = some (.slice (some ⟨b, off, none⟩) n c) := hnx.2 _ hBs
      obtain ⟨fn, tmps, assign, body, hy, hR⟩ := hY _ (f k) wr hJs (by rw [upTo_length]; exact hlt)
      rw [hf k hlt] at hy
      gi_wp2
      refine hR.mono ?_
      rintro e W3 (⟨rfl, hJ3, hk3⟩ | ⟨rfl, hJx3⟩)
      · gi_wp2
        go_roundw
        case rel => exact ⟨k + 1, by omega, by go_num, by rw [upTo_succ]; exact hJ3, hnx.trans hk3⟩
        case measure => simp [intOf]; omega
      · gi_wp2
        refine bodyPost_ret (results_none rfl _ _ _) rfl ?_
        exact ⟨⟨_, rfl⟩, .inr ⟨_, ⟨k + 1, by omega, (upTo_succ _ _).symm⟩, hJx3⟩⟩
    · obtain rfl : k = n := by omega
      gi_wp2
      go_end0
      exact ⟨⟨_, rfl⟩, .inl ⟨_, rfl, hJs⟩⟩

theorem bw_in (F : Fence) (N : Nat) (hF : F.fn 93) (hro : F.round = none) (A : Option Addr) (n c : Nat) (w : World) :
    CallsIn F N Tryz.prog 93 #[.slice A n c] w fun e w' => e = .returned (.func (.func 111) #[] #[.pointer (some ⟨w.heap.size, 0, none⟩)]) ∧ w' = w.alloc (.cells #[.slice A n c] 24) := by
  refine callsIn_of_wp Tryz.func93 rfl hF ?_ hro
  simp only [Tryz.ntmps93, List.size_toArray, List.length_cons, List.length_nil, Nat.reduceAdd, Nat.reduceSub, Array.replicate_succ, Array.replicate_zero, List.push_toArray, List.append_toArray, List.nil_append, List.cons_append]
  gi_wp2
  go_ret
  exact ⟨rfl, rfl⟩

theorem bw_stops {α : Type} (encs : α → Array Value) (f : Nat → α) (F : Fence) (N : Nat) (hF : F.fn 111) (hro : F.round = none) (hN : 1 ≤ N) (Bs n₀ n c : Nat) (A : Option Addr) (zs : List Int) (hn : n ≤ 1073741824)
    (hf : ∀ k, k < n → encs (f k) = #[.int .i64 ((n : Int) - 1 - k), .int .i64 (gi zs (n - 1 - k))])
    (w : World) (hBs : Bs < w.heap.size) (hn₀ : n₀ ≤ w.heap.size) (hc : w.cell? ⟨Bs, 0, none⟩ = some (.slice A n c)) (h : Sl w n₀ A n c zs) :
    SeqStopsK F N Tryz.prog 111 #[.pointer (some ⟨Bs, 0, none⟩)] encs (KpB n₀ Bs) (fun ys => ys = upTo f n) (fun pre => ∃ k, k ≤ n ∧ pre = upTo f k) n w := fun l J Jx W hW _ _ hY h0 =>
  bw1_in encs f F N hF hro hN l Bs n₀ n c A zs hn hf J Jx hY W ((hW.cell (p := ⟨Bs, 0, none⟩) hBs).trans hc) (h.keep fun p hp => hW.cell (by omega)) h0

section
variable {P : Program} {ops : Array Oper} {Q : Exit → Act → World → Prop} {md : Region.Mode} {S : Bool → World → Prop} {z t : Nat}

/-- An operation that is no call and no defer statement. -/
def plainOp (o : Oper) : Bool := match o.op with | .call _ | .go _ | .defer _ | .select .. => false | _ => true

/-- Operation o, carried out in the state a and the world w, leaves v and the world w'. -/
def Does (P : Program) (ops : Array Oper) (o : Oper) (a : Act) (w : World) (v : Value) (w' : World) : Prop :=
  (Region.wanted o (yielded ops a.tmps) = true ∧ ((execOp a.eval o).run P w = .ok (.value v) w' ∨ ((execOp a.eval o).run P w = .ok .skip w' ∧ v = undef))) ∨
  (Region.wanted o (yielded ops a.tmps) = false ∧ v = undef ∧ w' = w)

theorem Does.put {oi oj : Oper} {v u : Value} {a : Act} {w w' : World} (hap : oi.apart ops oj = true) (hsj : ∀ cs b, oj.op ≠ .select cs b) (h : Does P ops oj (a.put oi.dst v) w u w') : Does P ops oj a w u w' := by
  obtain ⟨h1, _, _⟩ := Oper.apart_spec hap
  unfold Does at *
  rw [execOp_put oj hsj a oi.dst v h1, wanted_put oj a oi.dst v h1] at h
  exact h
theorem Does.wpIn {F : Fence} {n i : Nat} {o : Oper} {v : Value} {a : Act} {w w' : World} {K : Act → World → Prop} (ho : ops[i]? = some o) (hp : plainOp o = true) (h : Does P ops o a w v w') (hK : K (a.put o.dst v) w') : wpOpIn F n P ops Q i K a w := by
  have hd : ∀ c, o.op ≠ .defer c := fun c e => by simp [plainOp, e] at hp
  have hab : o.about P w a.eval = none := by
    unfold Oper.about
    cases e : o.op <;> simp [plainOp, e] at hp <;> rfl
  have hsem : o.semAt F.round a.eval = execOp a.eval o := by
    cases F.round with
    | none => rfl
    | some l => exact Oper.semAt_some l _ o hd
  unfold wpOpIn
  simp only [ho]
  rcases h with ⟨hw, h | ⟨h, rfl⟩⟩ | ⟨hw, rfl, rfl⟩
  · simp only [hw, if_true]; unfold Oper.wpIn; rw [hsem, h]; exact ⟨(fun f hf => by rw [hab] at hf; cases hf), hK⟩
  · simp only [hw, if_true]; unfold Oper.wpIn; rw [hsem, h]; exact ⟨(fun f hf => by rw [hab] at hf; cases hf), hK⟩
  · simp only [hw, Bool.false_eq_true, if_false]; exact ⟨(fun f hf => by rw [hab] at hf; cases hf), hK⟩

/-- Operation j waits for operation k itself. -/
def waitsOn (md : Region.Mode) (ops : Array Oper) (j k : Nat) : Bool := match ops[j]? with
  | some o => o.after.any fun e => Region.binds md e && e.on == k
  | none => true
theorem waitsOn_ready {i j : Nat} {listed : Array Bool} (hi : listed.getD i true = false) (hj : j ∈ Region.ready md ops listed) : waitsOn md ops j i = false := by
  obtain ⟨_, o, ho, hall⟩ := mem_ready.1 hj
  unfold waitsOn
  rw [ho]
  refine Bool.eq_false_iff.2 fun h => ?_
  obtain ⟨e, he, hb⟩ := Array.any_eq_true'.1 h
  simp only [Bool.and_eq_true, beq_iff_eq] at hb
  have h2 := hall e he hb.1
  rw [hb.2] at h2
  rcases Nat.lt_or_ge i listed.size with h' | h'
  · simp [h'] at hi h2; rw [hi] at h2; cases h2
  · simp [Array.getElem?_eq_none h'] at h2
/-- What the takes read: S false as long as operation t has not come, S true behind it; what t waits for is read ahead of it. -/
def Sx (md : Region.Mode) (ops : Array Oper) (S : Bool → World → Prop) (t i : Nat) (w : World) : Prop := ∃ b, (waitsOn md ops t i = true → b = false) ∧ S b w
/-- Is t listed? -/
def bitOf (t : Nat) (listed : Array Bool) : Bool := listed.getD t false
/-- If t is listed, so is all that it waits for. -/
def Shutt (md : Region.Mode) (ops : Array Oper) (t : Nat) (listed : Array Bool) : Prop := bitOf t listed = true → ∀ k, waitsOn md ops t k = true → listed.getD k true = true
theorem getD_set_self (listed : Array Bool) (i : Nat) : (listed.setIfInBounds i true).getD i true = true := by
  simp only [Array.getD_eq_getD_getElem?, Array.getElem?_setIfInBounds_self]
  split <;> rfl
theorem bitOf_set_ne {t i : Nat} {listed : Array Bool} (h : i ≠ t) : bitOf t (listed.setIfInBounds i true) = bitOf t listed := getD_set_ne false h
theorem Shutt.set {listed : Array Bool} (h : Shutt md ops t listed) {j : Nat} (hj : j ∈ Region.ready md ops listed) : Shutt md ops t (listed.setIfInBounds j true) := by
  intro hb k hk
  by_cases hjk : j = k
  · subst hjk; exact getD_set_self _ _
  · rw [getD_set_ne true hjk]
    by_cases hjt : j = t
    · subst hjt
      refine Bool.eq_false_imp_eq_true.1 fun hf => ?_
      rw [waitsOn_ready hf hj] at hk; cases hk
    · rw [bitOf_set_ne hjt] at hb
      exact h hb k hk
theorem Shutt.sx {listed : Array Bool} {w : World} {i : Nat} (h : Shutt md ops t listed) (hi : listed.getD i true = false) (hS : S (bitOf t listed) w) : Sx md ops S t i w := by
  refine ⟨_, fun hw => ?_, hS⟩
  refine Bool.eq_false_iff.2 fun hb => ?_
  rw [h hb i hw] at hi; cases hi

/-- Whatever order is picked from here on. -/
def AnyV (P : Program) (md : Region.Mode) (ops : Array Oper) (Q : Exit → Act → World → Prop) (S : Bool → World → Prop) (z t : Nat) : Nat → Array Bool → Act → World → Prop
  | 0, listed, a, w => Region.ready md ops listed = [] ∧ Q .normal a w
  | fuel + 1, listed, a, w =>
    (Region.ready md ops listed = [] → Q .normal a w) ∧
    ∀ i ∈ Region.ready md ops listed, ∃ o v w', ops[i]? = some o ∧ Does P ops o a w v w' ∧ (i < z → S (bitOf t (listed.setIfInBounds i true)) w') ∧ AnyV P md ops Q S z t fuel (listed.setIfInBounds i true) (a.put o.dst v) w'

theorem anyIn_of_v {F : Fence} {n : Nat} (hp : ops.all plainOp = true) : ∀ (fuel : Nat) (listed : Array Bool) (a : Act) (w : World), AnyV P md ops Q S z t fuel listed a w → wpAnyIn F n P md ops Q fuel listed a w
  | 0, _, _, _, h => h
  | fuel + 1, _, _, _, h => ⟨h.1, fun i hi => by
      obtain ⟨o, v, w', ho, hd, _, hK⟩ := h.2 i hi
      exact hd.wpIn ho (Array.all_eq_true_iff_forall_mem.1 hp o (Array.mem_of_getElem? ho)) (anyIn_of_v hp fuel _ _ _ hK)⟩

theorem YieldsIf.does {R : World → Prop} {o : Oper} {v : Value} {a : Act} {w : World} (h : YieldsIf P ops R o v a) (hS : R w) : Does P ops o a w v w := by
  rcases h with ⟨hw, hv⟩ | ⟨hw, rfl⟩
  · exact .inl ⟨hw, .inl (hv w hS)⟩
  · exact .inr ⟨hw, rfl, rfl⟩

theorem anyV_first {i : Nat} {oi : Oper} {v : Value} (hi : ops[i]? = some oi) (hsel : ∀ (j : Nat) (o : Oper) cs b, ops[j]? = some o → o.op ≠ .select cs b)
    (hwt : waited md ops z i = true) (hiz : i < z) (hit : i ≠ t) :
    ∀ (fuel : Nat) (listed : Array Bool) (a : Act) (w : World),
      (∀ j oj, ops[j]? = some oj → j ≠ i → listed.getD j true = false → (∀ e ∈ oj.after, Region.binds md e = true → e.on ≠ i) → oi.apart ops oj = true) →
      i ∈ Region.ready md ops listed → YieldsIf P ops (Sx md ops S t i) oi v a → Shutt md ops t listed → S (bitOf t listed) w →
      AnyV P md ops Q S z t fuel (listed.setIfInBounds i true) (a.put oi.dst v) w → AnyV P md ops Q S z t (fuel + 1) listed a w := by
  intro fuel
  induction fuel with
  | zero =>
    intro listed a w _ hr hy hC hS H
    refine ⟨fun h => (by rw [h] at hr; cases hr), fun j hj => ?_⟩
    by_cases hji : j = i
    · subst hji; exact ⟨oi, v, w, hi, YieldsIf.does hy (hC.sx (mem_ready.1 hr).1 hS), fun _ => by rw [bitOf_set_ne hit]; exact hS, H⟩
    · have := ready_mono hj hji
      rw [H.1] at this
      cases this
  | succ fuel ih =>
    intro listed a w hfree hr hy hC hS H
    refine ⟨fun h => (by rw [h] at hr; cases hr), fun j hj => ?_⟩
    by_cases hji : j = i
    · subst hji; exact ⟨oi, v, w, hi, YieldsIf.does hy (hC.sx (mem_ready.1 hr).1 hS), fun _ => by rw [bitOf_set_ne hit]; exact hS, H⟩
    · have hjz : j < z := not_ready_of_waited hwt (mem_ready.1 hr).1 hj
      obtain ⟨oj, u, w', hoj', hd, hSj, hrest⟩ := H.2 j (ready_mono hj hji)
      obtain ⟨hjun, oj', hoj, hall⟩ := mem_ready.1 hj
      obtain rfl : oj = oj' := by rw [hoj] at hoj'; exact (Option.some.inj hoj').symm
      have hnot : ∀ e ∈ oj.after, Region.binds md e = true → e.on ≠ i := fun e he hb heq => by
        have h1 := hall e he hb
        have h0 := (mem_ready.1 hr).1
        rw [heq] at h1
        rcases Nat.lt_or_ge i listed.size with h' | h'
        · simp [h'] at h0 h1; rw [h0] at h1; cases h1
        · simp [Array.getElem?_eq_none h'] at h1
      have hap := hfree j oj hoj hji hjun hnot
      obtain ⟨_, h2, h3⟩ := Oper.apart_spec hap
      have hfree' : ∀ k ok, ops[k]? = some ok → k ≠ i → (listed.setIfInBounds j true).getD k true = false →
          (∀ e ∈ ok.after, Region.binds md e = true → e.on ≠ i) → oi.apart ops ok = true := fun k ok hk hki hun hno => by
        refine hfree k ok hk hki ?_ hno
        by_cases hjk : j = k
        · subst hjk; exact hjun
        · rw [getD_set_ne true hjk] at hun; exact hun
      have hSj' : j < z → S (bitOf t (listed.setIfInBounds j true)) w' := fun h => by
        have := hSj h
        rw [Array.setIfInBounds_comm _ _ (Ne.symm hji), bitOf_set_ne hit] at this
        exact this
      refine ⟨oj, u, w', hoj, hd.put hap (fun cs b => hsel j oj cs b hoj), hSj', ?_⟩
      refine ih _ _ _ hfree' (ready_mono hr (Ne.symm hji)) (hy.of_same (execOp_put oi (fun cs b => hsel i oi cs b hi) a oj.dst u h3) (wanted_put oi a oj.dst u h3)) (hC.set hj) (hSj' hjz) ?_
      rw [Array.setIfInBounds_comm _ _ hji, ← Act.put_comm a v u h2]
      exact hrest

/-- The walk in the order l; the Bool: has t come? -/
def OrdV (P : Program) (md : Region.Mode) (ops : Array Oper) (Q : Exit → Act → World → Prop) (S : Bool → World → Prop) (z t : Nat) : Bool → List Nat → Act → World → Prop
  | _, [], a, w => Q .normal a w
  | b, i :: l, a, w => ∀ o, ops[i]? = some o →
    if takes z o i && i != t then ∃ v, YieldsIf P ops (Sx md ops S t i) o v a ∧ OrdV P md ops Q S z t b l (a.put o.dst v) w
    else ∃ v w', Does P ops o a w v w' ∧ (i < z → S (b || i == t) w') ∧ OrdV P md ops Q S z t (b || i == t) l (a.put o.dst v) w'

theorem bitOf_set {t i : Nat} {listed : Array Bool} (h : i < listed.size) : bitOf t (listed.setIfInBounds i true) = (bitOf t listed || i == t) := by
  by_cases e : i = t
  · subst e; simp [bitOf, Array.getD_eq_getD_getElem?, h]
  · rw [bitOf_set_ne e]; simp [e]

theorem ordV_sound (hs : Region.noSelect ops = true) :
    ∀ (l : List Nat) (listed : Array Bool) (a : Act) (w : World), orderOk md ops z l listed = true → (∀ o, ops[t]? = some o → takes z o t = false) → Shutt md ops t listed → ((∃ i ∈ l, i < z) → S (bitOf t listed) w) → OrdV P md ops Q S z t (bitOf t listed) l a w → AnyV P md ops Q S z t l.length listed a w := by
  intro l
  induction l with
  | nil =>
    intro listed a w hok _ _ _ h
    have : Region.ready md ops listed = [] := by simpa [orderOk] using hok
    exact ⟨this, h⟩
  | cons i l ih =>
    intro listed a w hok hX hC hS h
    simp only [orderOk, Bool.and_eq_true] at hok
    obtain ⟨hok, hrest⟩ := hok
    cases ho : ops[i]? with
    | none => rw [ho] at hok; cases hok
    | some o =>
      rw [ho] at hok
      have h1 := h o ho
      by_cases ht : takes z o i = true
      · by_cases hit : i = t
        · subst hit; rw [hX o ho] at ht; cases ht
        have hc : (takes z o i && i != t) = true := by simp [ht, hit]
        rw [if_pos hc] at h1
        simp only [ht, if_true] at hok
        obtain ⟨v, hy, hw⟩ := h1
        have hiz : i < z := takes_lt ht
        rw [Bool.and_eq_true, Bool.and_eq_true] at hok
        have hri : i ∈ Region.ready md ops listed := by simpa using hok.1.1
        refine anyV_first ho (Region.noSelect_spec hs) hok.2 hiz hit l.length listed a w (Region.free_spec ho hok.1.2) hri hy hC (hS ⟨i, by simp, hiz⟩)
          (ih _ _ _ hrest hX (hC.set hri) (fun ⟨j, hj, hjz⟩ => by rw [bitOf_set_ne hit]; exact hS ⟨j, by simp [hj], hjz⟩) (by rw [bitOf_set_ne hit]; exact hw))
      · have hc : ¬ (takes z o i && i != t) = true := by simp [ht]
        rw [if_neg hc] at h1
        simp only [ht, if_false, Bool.false_eq_true] at hok
        rw [Bool.and_eq_true] at hok
        have hr : Region.ready md ops listed = [i] := by simpa using hok.1
        have hri : i ∈ Region.ready md ops listed := by rw [hr]; simp
        have hsz : i < listed.size := by
          have := (mem_ready.1 hri).1
          rcases Nat.lt_or_ge i listed.size with h' | h'
          · exact h'
          · simp [Array.getD_eq_getD_getElem?, Array.getElem?_eq_none h'] at this
        obtain ⟨v, w', hd, hSi, hw⟩ := h1
        refine ⟨fun h0 => (by rw [hr] at h0; cases h0), fun j hj => ?_⟩
        rw [hr] at hj
        obtain rfl : j = i := by simpa using hj
        have hbit := bitOf_set (t := t) hsz
        refine ⟨o, v, w', ho, hd, by rw [hbit]; exact hSi, ih _ _ _ hrest hX (hC.set hri) (fun ⟨k, hk, hkz⟩ => ?_) (by rw [hbit]; exact hw)⟩
        have h2 := hok.2
        rw [Bool.or_eq_true] at h2
        rw [hbit]
        rcases h2 with h2 | h2
        · exact hSi (by simpa using h2)
        · rw [List.all_eq_true] at h2
          have := h2 k hk
          simp only [decide_eq_true_eq] at this
          omega

theorem wpIn_region_ord {F : Fence} {n : Nat} {id : Nat} {a : Act} {w : World} (l : List Nat) (z t : Nat) (S : Bool → World → Prop) (hm : P.follows .mixedOrders = true) (hs : Region.noSelect ops = true) (hp : ops.all plainOp = true)
    (hok : (l.length == ops.size && orderOk .any ops z l (Array.replicate ops.size false)) = true) (htk : (ops[t]?.all fun o => !takes z o t) = true)
    (hS : S false w.drew) (h : OrdV P .any ops Q S z t false l a w.drew) : (Code.region id ops true).wpIn F n P Q a w := by
  rw [Bool.and_eq_true] at hok
  have hl : l.length = ops.size := by simpa using hok.1
  have hb : bitOf t (Array.replicate ops.size false) = false := by
    unfold bitOf
    rw [Array.getD_eq_getD_getElem?, Array.getElem?_replicate]
    split <;> rfl
  have h1 := anyIn_of_v (F := F) (n := n) hp _ _ _ _ (ordV_sound hs l _ a w.drew hok.2 (fun o ho => by rw [ho] at htk; simpa using htk) (fun h => by rw [hb] at h; cases h) (fun _ => by rw [hb]; exact hS) (by rw [hb]; exact h))
  rw [hl] at h1
  exact wpIn_region_any hm h1

variable {b : Bool}
theorem ordV_nil {a : Act} {w : World} (h : Q .normal a w) : OrdV P md ops Q S z t b [] a w := h
theorem ordV_take {i : Nat} {l : List Nat} {a : Act} {w : World} {o : Oper} {v : Value} (ho : ops[i]? = some o) (ht : (takes z o i && i != t) = true)
    (hw : Region.wanted o (yielded ops a.tmps) = true) (hy : ∀ w, Sx md ops S t i w → (execOp a.eval o).run P w = .ok (.value v) w) (h : OrdV P md ops Q S z t b l (a.put o.dst v) w) : OrdV P md ops Q S z t b (i :: l) a w := by
  intro o' ho'
  obtain rfl : o = o' := by rw [ho] at ho'; exact Option.some.inj ho'
  rw [if_pos ht]
  exact ⟨v, .inl ⟨hw, hy⟩, h⟩
/-- An operation that leaves v. -/
theorem ordV_do {i : Nat} {l : List Nat} {a : Act} {w w' : World} {o : Oper} {v : Value} (ho : ops[i]? = some o) (ht : takes z o i = false) (hw : Region.wanted o (yielded ops a.tmps) = true)
    (hr : (execOp a.eval o).run P w = .ok (.value v) w') (hS : i < z → S (b || i == t) w') (h : OrdV P md ops Q S z t (b || i == t) l (a.put o.dst v) w') : OrdV P md ops Q S z t b (i :: l) a w := by
  intro o' ho'
  obtain rfl : o = o' := by rw [ho] at ho'; exact Option.some.inj ho'
  rw [if_neg (by rw [ht]; exact Bool.false_ne_true)]
  exact ⟨v, w', .inl ⟨hw, .inl hr⟩, hS, h⟩
/-- An operation that leaves nothing (a store). -/
theorem ordV_store {i : Nat} {l : List Nat} {a : Act} {w w' : World} {o : Oper} (ho : ops[i]? = some o) (ht : takes z o i = false) (hw : Region.wanted o (yielded ops a.tmps) = true)
    (hr : (execOp a.eval o).run P w = .ok .skip w') (hS : i < z → S (b || i == t) w') (h : OrdV P md ops Q S z t (b || i == t) l (a.put o.dst undef) w') : OrdV P md ops Q S z t b (i :: l) a w := by
  intro o' ho'
  obtain rfl : o = o' := by rw [ho] at ho'; exact Option.some.inj ho'
  rw [if_neg (by rw [ht]; exact Bool.false_ne_true)]
  exact ⟨undef, w', .inl ⟨hw, .inr ⟨hr, rfl⟩⟩, hS, h⟩
end
attribute [local go_sem] Oper.semAt_some

/-- An index and an order. -/
abbrev IxOrd := { x : Int × Int // 1 ≤ x.2 ∧ x.2 ≤ 1000000 }
/-- One round: what is left of both elements, the sum, the place. -/
def stepA (s : Int × Int × Int × Int) (x : IxOrd) : Int × Int × Int × Int :=
  (s.1 / x.1.2, s.2.1 / x.1.2, wrap64 (s.2.2.1 + wrap64 ((s.1 + s.2.1) % x.1.2 * s.2.2.2)), wrap64 (s.2.2.2 * x.1.2))
def foldA (a b : Int) (pre : List IxOrd) : Int × Int × Int × Int := pre.foldl stepA (a, b, 0, 1)
theorem foldA_snoc (a b : Int) (pre : List IxOrd) (x : IxOrd) : foldA a b (pre ++ [x]) = stepA (foldA a b pre) x := by simp [foldA]

/-- Between two rounds: the four variables in their boxes. -/
structure AddI (w : World) (a b : Int) (pre : List IxOrd) (W : World) : Prop where
  va : Blk W w.heap.size 2 #[.int .i64 (foldA a b pre).1]
  vb : Blk W (w.heap.size + 1) 2 #[.int .i64 (foldA a b pre).2.1]
  vs : Blk W (w.heap.size + 1 + 1) 2 #[.int .i64 (foldA a b pre).2.2.1]
  vp : Blk W (w.heap.size + 1 + 1 + 1) 2 #[.int .i64 (foldA a b pre).2.2.2]
  a0 : 0 ≤ (foldA a b pre).1
  a1 : (foldA a b pre).1 ≤ 1000000
  b0 : 0 ≤ (foldA a b pre).2.1
  b1 : (foldA a b pre).2.1 ≤ 1000000
  below : Below w.heap.size w W
theorem AddI.own {w : World} {a b : Int} {D : Nat} (hD : w.heap.size + 4 ≤ D) : OwnFrom D (AddI w a b) := fun s A B row hs hg hr => by
  have h : ∀ g, g < w.heap.size + 4 → row ≠ some g := fun g hg' e => by have := (hr g e).1; omega
  exact ⟨hs.va.grown hg (h _ (by omega)), hs.vb.grown hg (h _ (by omega)), hs.vs.grown hg (h _ (by omega)), hs.vp.grown hg (h _ (by omega)), hs.a0, hs.a1, hs.b0, hs.b1,
    hs.below.grown hg hs.below.size (fun k e => by have := (hr k e).1; omega)⟩

set_option maxRecDepth 100000 in
set_option maxHeartbeats 2000000 in
theorem addElements_in (F : Fence) (N : Nat) (h1 : F.fn 101) (h2 : F.fn 93) (h3 : F.fn 111) (hro : F.round = none) (hN : 3 ≤ N) (A : Option Addr) (n c : Nat) (zs : List Int) (a b : Int) (hn : n ≤ 1073741824)
    (f : Nat → IxOrd) (hf : ∀ k, k < n → (f k).1 = ((n : Int) - 1 - k, gi zs (n - 1 - k))) (a0 : 0 ≤ a) (a1 : a ≤ 1000000) (b0 : 0 ≤ b) (b1 : b ≤ 1000000) (w : World) (h : Sl w w.heap.size A n c zs) :
    CallsIn F N Tryz.prog 101 #[.slice A n c, .int .i64 a, .int .i64 b] w fun e W' => e = .returned (.int .i64 (foldA a b (upTo f n)).2.2.1) ∧ Below w.heap.size w W' := by
  have hn1 : 1 ≤ N := by omega
  refine callsIn_of_wp_marks Tryz.func101 rfl h1 ?_ hro
  simp only [Tryz.ntmps101, List.size_toArray, List.length_cons, List.length_nil, Nat.reduceAdd, Nat.reduceSub, Array.replicate_succ, Array.replicate_zero, List.push_toArray, List.append_toArray, List.nil_append, List.cons_append]
  gi_wp2_with (gi_at_call 93; refine (bw_in F (N - 1) h2 hro _ _ _ _).mono ?_; rintro e w' ⟨rfl, rfl⟩)
  have hB0 : Below w.heap.size w (((((w.alloc (.cells #[.int .i64 a] 2)).alloc (.cells #[.int .i64 b] 2)).alloc (.cells #[.int .i64 0] 2)).alloc (.cells #[.int .i64 1] 2)).alloc (.cells #[.slice A n c] 24)) := (by repeat (first | assumption | exact Below.refl _ _ | apply below_drewN | apply Below.drew | apply Below.alloc | apply Below.setCell | omega | (focus (simp; done)) | (focus (simp; omega))))
  refine wpIn_rangeFunc_ownG hro hn1 (gf := 111) (lb := #[.pointer (some ⟨w.heap.size + 1 + 1 + 1 + 1, 0, none⟩)]) rfl h3 (enters_of Tryz.func111 (by kernel_rfl) rfl)
    (bw_stops (fun x : IxOrd => #[.int .i64 x.1.1, .int .i64 x.1.2]) f F (N - 1) h3 hro (by omega) (w.heap.size + 1 + 1 + 1 + 1) w.heap.size n c A zs hn (fun k hk => by simp only [hf k hk]) _ (by simp) (by simp; omega) (by simp [World.cell?_alloc_at]) (h.below hB0))
    KpB.trans (KpB.obj (by simp; omega)) (Below.refl _ _) (fun _ => rfl)
    (AddI w a b) (fun _ _ _ => False) (AddI.own (by simp)) (fun _ _ _ _ _ hs _ _ => hs)
    ⟨?v1, ?v2, ?v3, ?v4, a0, a1, b0, b1, hB0⟩
    ?a1 ?assign ?body ?done ?stop
  case v1 => exact ((((Blk.new _ _ _).alloc _).alloc _).alloc _).alloc _
  case v2 => exact (((Blk.new' _ _ _ _ (by simp)).alloc _).alloc _).alloc _
  case v3 => exact ((Blk.new' _ _ _ _ (by simp)).alloc _).alloc _
  case v4 => exact (Blk.new' _ _ _ _ (by simp)).alloc _
  case assign =>
    intro l x W K hK
    gi_wp2
    exact hK
  case body =>
    rintro l pre x W ⟨hva, hvb, hvs, hvp, q0, q1, q2, q3, hB⟩ _
    obtain ⟨s1, hs1⟩ : ∃ s1, foldA a b pre = s1 := ⟨_, rfl⟩
    have HX := hide hs1
    rw [hs1] at hva hvb hvs hvp q0 q1 q2 q3
    clear hs1
    obtain ⟨sa, sb, ss, sp⟩ := s1
    obtain ⟨⟨ix, m⟩, hm1, hm2⟩ := x
    simp only at hva hvb hvs hvp q0 q1 q2 q3 hm1 hm2
    have ca := hva.cell 0
    have cb := hvb.cell 0
    have cs := hvs.cell 0
    have cp := hvp.cell 0
    have fs := hvs.frozen 0
    have fp := hvp.frozen 0
    have fa := hva.frozen 0
    have fb := hvb.frozen 0
    have t0 : ¬ m = 0 := by omega
    have t1 : sa.tmod m = sa % m := Int.tmod_eq_emod_of_nonneg q0
    have t2 : sb.tmod m = sb % m := Int.tmod_eq_emod_of_nonneg q2
    have b1' : 0 ≤ sa % m ∧ sa % m < m := ⟨Int.emod_nonneg _ (by omega), Int.emod_lt_of_pos _ (by omega)⟩
    have b2' : 0 ≤ sb % m ∧ sb % m < m := ⟨Int.emod_nonneg _ (by omega), Int.emod_lt_of_pos _ (by omega)⟩
    have t3 : IntKind.i64.wrap (sa % m + sb % m) = sa % m + sb % m := by rw [wrap_eq]; exact wrap64_ok _ ⟨by omega, by omega⟩
    have t4 : (sa % m + sb % m).tmod m = (sa % m + sb % m) % m := Int.tmod_eq_emod_of_nonneg (by omega)
    have t5 : sa.tdiv m = sa / m := Int.tdiv_eq_ediv_of_nonneg q0
    have t6 : sb.tdiv m = sb / m := Int.tdiv_eq_ediv_of_nonneg q2
    have t7 : IntKind.i64.wrap (sa / m) = sa / m := by rw [wrap_eq]; exact wrap64_ok _ ⟨by have := Int.ediv_nonneg q0 (show 0 ≤ m by omega); omega, by have := Int.ediv_le_self m q0; omega⟩
    have t8 : IntKind.i64.wrap (sb / m) = sb / m := by rw [wrap_eq]; exact wrap64_ok _ ⟨by have := Int.ediv_nonneg q2 (show 0 ≤ m by omega); omega, by have := Int.ediv_le_self m q2; omega⟩
    gi_wp2
    refine wpIn_region_ord [0, 1, 2, 3, 4, 5, 6, 7, 8, 9, 10, 11, 12, 13] 13 1000 (fun _ w' => w'.cell? ⟨w.heap.size, 0, none⟩ = some (.int .i64 sa) ∧ w'.cell? ⟨w.heap.size + 1, 0, none⟩ = some (.int .i64 sb) ∧ w'.cell? ⟨w.heap.size + 1 + 1, 0, none⟩ = some (.int .i64 ss) ∧ w'.cell? ⟨w.heap.size + 1 + 1 + 1, 0, none⟩ = some (.int .i64 sp)) (by kernel_rfl) (by kernel_rfl) (by kernel_rfl) (by kernel_rfl) (by kernel_rfl) ⟨?_, ?_, ?_, ?_⟩ ?_
    any_goals (go_simp; done)
    repeat (apply ordV_take rfl (by rfl) (by rfl); (focus (rintro w ⟨bb, hbb, hSw⟩; (try have hbb' := hbb (by decide +kernel)); (try subst hbb'); clear hbb; (try dsimp only at hSw); (try simp only [true_implies, forall_const] at hSw); go_simp; (try with_reducible rfl))); (try simp only [Act.put, List.setIfInBounds_toArray, List.set_cons_zero, List.set_cons_succ]))
    refine ordV_store rfl (by rfl) (by rfl) (by go_simp; rfl) (fun h => absurd h (by omega)) ?_
    (try simp only [Act.put, List.setIfInBounds_toArray, List.set_cons_zero, List.set_cons_succ])
    refine ordV_nil ?_
    gi_wp2
    refine wpIn_region_ord [0, 1, 2, 3, 4, 5, 6, 7] 7 6 (fun b w' => w'.cell? ⟨w.heap.size + 1, 0, none⟩ = some (.int .i64 sb) ∧ (b = false → w'.cell? ⟨w.heap.size, 0, none⟩ = some (.int .i64 sa))) (by kernel_rfl) (by kernel_rfl) (by kernel_rfl) (by kernel_rfl) (by kernel_rfl) ⟨?_, fun _ => ?_⟩ ?_
    any_goals (go_simp; done)
    repeat (apply ordV_take rfl (by rfl) (by rfl); (focus (rintro w ⟨bb, hbb, hSw⟩; (try have hbb' := hbb (by decide +kernel)); (try subst hbb'); clear hbb; (try dsimp only at hSw); (try simp only [true_implies, forall_const] at hSw); go_simp; (try with_reducible rfl))); (try simp only [Act.put, List.setIfInBounds_toArray, List.set_cons_zero, List.set_cons_succ]))
    refine ordV_store rfl (by rfl) (by rfl) (by go_simp; rfl) (fun _ => ⟨by go_simp, fun h => by cases h⟩) ?_
    (try simp only [Act.put, List.setIfInBounds_toArray, List.set_cons_zero, List.set_cons_succ])
    refine ordV_store rfl (by rfl) (by rfl) (by go_simp; rfl) (fun h => absurd h (by omega)) ?_
    (try simp only [Act.put, List.setIfInBounds_toArray, List.set_cons_zero, List.set_cons_succ])
    refine ordV_nil ?_
    gi_wp2
    have hB' := hB.setCell (p := ⟨w.heap.size + 1 + 1, 0, none⟩) (by show w.heap.size ≤ w.heap.size + 1 + 1; omega) (.int .i64 (wrap64 (ss + wrap64 ((sa + sb) % m * sp))))
    have hs : foldA a b (pre ++ [⟨(ix, m), ⟨hm1, hm2⟩⟩]) = (sa / m, sb / m, wrap64 (ss + wrap64 ((sa + sb) % m * sp)), wrap64 (sp * m)) := by rw [foldA_snoc, HX.out]; rfl
    refine ⟨KeepsOthers.from ?kt _, ⟨(((((Below.refl _ W).setCell ?n1 _).setCell ?n2 _).setCell ?n3 _).setCell ?n4 _).drew.drew, fun v hv => ?kb⟩, ⟨?x1, ?x2, ?x3, ?x4, ?x5, ?x6, ?x7, ?x8, ((((hB.setCell ?n1 _).setCell ?n2 _).setCell ?n3 _).setCell ?n4 _).drew.drew⟩⟩
    case kt => exact ((((KeepsOthers.setCell _ _ _).trans (KeepsOthers.setCell _ _ _)).trans (KeepsOthers.setCell _ _ _)).trans (KeepsOthers.setCell _ _ _)).trans ((KeepsOthers.drew _).trans (KeepsOthers.drew _))
    all_goals first | (show w.heap.size ≤ _; dsimp only; omega) | skip
    case kb => go_simp
    case x1 => rw [hs]; exact (((hva.far (by simp; omega) _).far (by simp; omega) _).store 0 _).far (by simp) _
    case x2 => rw [hs]; exact (((hvb.far (by simp) _).far (by simp) _).far (by simp) _).store 0 _
    case x3 => rw [hs]; exact (((hvs.store 0 _).far (by simp) _).far (by simp; omega) _).far (by simp) _
    case x4 => rw [hs]; exact (((hvp.far (by simp) _).store 0 _).far (by simp; omega) _).far (by simp; omega) _
    case x5 => rw [hs]; exact Int.ediv_nonneg q0 (by omega)
    case x6 => rw [hs]; exact Int.le_trans (Int.ediv_le_self m q0) q1
    case x7 => rw [hs]; exact Int.ediv_nonneg q2 (by omega)
    case x8 => rw [hs]; exact Int.le_trans (Int.ediv_le_self m q2) q3
  case done =>
    rintro D ys W hD rfl hs hK
    have cs := hs.vs.cell 0
    gi_wp2
    refine ⟨by simp, .inl ⟨_, _, rfl, run_takeDeferred hK, ?_⟩⟩
    exact ⟨_, results_tmp rfl _ _ _, rfl, hs.below.trans (belowK_b (w := w) (Nat.le_refl _) W D _ _ (by simp at hD; omega) hK rfl rfl)⟩
  case stop =>
    rintro D c pre W _ _ h _
    exact h.elim

def allIn (lo hi : Int) (xs : List Int) : Bool := xs.all fun x => inB x lo hi
theorem allIn_f {lo hi : Int} {xs : List Int} {k : Nat} (hk : k < xs.length) (h : inB (gi xs k) lo hi = false) : allIn lo hi xs = false := by
  refine Bool.eq_false_iff.2 fun ha => ?_
  have := List.all_eq_true.1 ha _ (gi_mem hk)
  rw [h] at this; cases this
theorem allIn_t {lo hi : Int} {xs : List Int} (h : ∀ k, k < xs.length → inB (gi xs k) lo hi = true) : allIn lo hi xs = true := by
  refine List.all_eq_true.2 fun x hx => ?_
  obtain ⟨j, hj, rfl⟩ := List.getElem_of_mem hx
  have := h j hj
  unfold gi at this
  rw [List.getD_eq_getElem?_getD, List.getElem?_eq_getElem hj] at this
  exact this

theorem allWithin1_v (b : Bool) (w : World) (n lo hi : Int) (p q : Nat) (h1 : w.cell? ⟨p, 0, none⟩ = some (.int .i64 lo)) (h2 : w.cell? ⟨q, 0, none⟩ = some (.int .i64 hi)) (hb : inB n lo hi = b) :
    Calls Tryz.prog 89 #[.int .i64 n, .pointer (some ⟨p, 0, none⟩), .pointer (some ⟨q, 0, none⟩)] w (Qt w (.bool (!b))) := by
  go_enter Tryz.func89, Tryz.ntmps89
  go_wp2_with fail
  refine (within_v b _ _ _ _ hb).mono ?_
  rintro e w' ⟨rfl, m, rfl⟩
  go_wp2
  go_ret
  exact Qt.d1 rfl

theorem indexFunc_all (w : World) (B : Nat) (A : Option Addr) (n c : Nat) (xs : List Int) (lo hi : Int) (p q : Nat) (h : Sl w B A n c xs) (hn : n ≤ 1073741824) (h1 : w.cell? ⟨p, 0, none⟩ = some (.int .i64 lo)) (h2 : w.cell? ⟨q, 0, none⟩ = some (.int .i64 hi)) :
    Calls Tryz.prog 110 #[.slice A n c, .func (.func 89) #[] #[.pointer (some ⟨p, 0, none⟩), .pointer (some ⟨q, 0, none⟩)]] w (fun e w' => ∃ r : Int, e = .returned (.int .i64 r) ∧ decide (0 ≤ r) = !(allIn lo hi xs) ∧ Dr w w') := by
  obtain rfl := h.len
  go_enter Tryz.func110, Tryz.ntmps110
  go_wp2_with fail
  go_loopw [8] (fun i wr => ∃ k : Nat, k ≤ xs.length ∧ i = .int .i64 k ∧ (∀ j, j < k → inB (gi xs j) lo hi = true) ∧ Dr w wr) (fun i _ => xs.length - (intOf i).toNat)
  case atStart => exact ⟨0, by omega, rfl, fun j hj => absurd hj (by omega), Dr.refl _⟩
  case round =>
    obtain ⟨k, hk, rfl, hpre, hDr⟩ := hrel
    obtain ⟨dm, rfl⟩ := hDr
    have hP := hide hpre
    clear hpre
    by_cases hlt : k < xs.length
    · obtain ⟨b, off, rfl, hb, hc⟩ := h.at_ (by omega)
      have c1 := hc k hlt
      clear hc
      cases hv : inB (gi xs k) lo hi with
      | true =>
        have hv' := hide hv
        clear hv
        go_wp2_with fail
        refine (allWithin1_v true (w.drewN dm) _ _ _ _ _ (by exact h1) (by exact h2) hv'.out).mono ?_
        rintro e w' ⟨rfl, m, rfl⟩
        go_wp2_with fail
        go_roundw
        case rel => exact ⟨k + 1, by omega, by go_num, fun j hj => by rcases Nat.lt_succ_iff_lt_or_eq.1 hj with h | rfl; exact hP.out j h; exact hv'.out, _, rfl⟩
        case measure => simp [intOf] <;> omega
      | false =>
        have hF := hide (allIn_f hlt hv)
        have hv' := hide hv
        clear hv
        go_wp2_with fail
        refine (allWithin1_v false (w.drewN dm) _ _ _ _ _ (by exact h1) (by exact h2) hv'.out).mono ?_
        rintro e w' ⟨rfl, m, rfl⟩
        go_wp2_with fail
        go_ret
        exact ⟨k, rfl, by rw [hF.out]; simp, _, rfl⟩
    · obtain rfl : k = xs.length := by omega
      have hT := hide (allIn_t fun j hj => hP.out j hj)
      go_wp2
      go_ret
      exact ⟨-1, rfl, by rw [hT.out]; rfl, _, rfl⟩
theorem allWithin_any (w : World) (B : Nat) (A : Option Addr) (n c : Nat) (xs : List Int) (lo hi : Int) (h : Sl w B A n c xs) (hB : B ≤ w.heap.size) (hn : n ≤ 1073741824) :
    Calls Tryz.prog 57 #[.slice A n c, .int .i64 lo, .int .i64 hi] w (Re w (.bool (allIn lo hi xs))) := by
  have hcf : ∀ W : World, ∀ p q : Nat, Sl W B A n c xs → W.cell? ⟨p, 0, none⟩ = some (.int .i64 lo) → W.cell? ⟨q, 0, none⟩ = some (.int .i64 hi) →
      Calls Tryz.prog 88 #[.slice A n c, .func (.func 89) #[] #[.pointer (some ⟨p, 0, none⟩), .pointer (some ⟨q, 0, none⟩)]] W (Qt W (.bool (!(allIn lo hi xs)))) := by
    intro W p q hs g1 g2
    go_enter Tryz.func88, Tryz.ntmps88
    go_wp2_with fail
    refine (indexFunc_all _ _ _ _ _ _ _ _ _ _ (by exact hs) hn (by exact g1) (by exact g2)).mono ?_
    rintro e w' ⟨r, rfl, hr, dm, rfl⟩
    have hR := hide hr
    clear hr
    go_wp2
    go_ret
    exact Qt.mk' _ rfl (bool_eq hR.out)
  go_enter Tryz.func57, Tryz.ntmps57
  go_wp2_with fail
  refine (hcf _ _ _ (h.below (by repeat (first | assumption | exact Below.refl _ _ | apply below_drewN | apply Below.drew | apply Below.alloc | apply Below.setCell | omega | (focus (simp; done)) | (focus (simp; omega))))) (by go_simp) (by go_simp)).mono ?_
  rintro e w' ⟨rfl, hDr⟩
  have hDr : Dr _ w' := hDr
  go_wp2
  go_ret
  exact ⟨by simp, hDr.below (by repeat (first | assumption | exact Below.refl _ _ | apply below_drewN | apply Below.drew | apply Below.alloc | apply Below.setCell | omega | (focus (simp; done)) | (focus (simp; omega))))⟩

end Go.Proofs.YtonehmjoolflfaaGreatDoor
