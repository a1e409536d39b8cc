
/- The library's iterator slices.Backward over a slice of int64: what it hands to a loop's body. -/
import Derived.RangeFuncNested
import Derived.RangeFuncBound
import Derived.RangeFuncCalls
import Derived.RangeFuncLeaves
import Derived.RangeFuncBox
import Derived.RangeFuncWrites
import Derived.Shelf.Abstract
import Derived.Shelf.RegionOpen
import Derived.OwnWalkIn
import Derived.TacticsInMore
import Derived.LoopNIn
import Derived.LoopIn
import Derived.Test.YtneflhachjlmkaaA1
namespace Go.Proofs.Ytneflhachjlmkaa
open Go Go.RowKit Go.Shelf
attribute [local go_sem] Oper.semAt_some

/-- What has come when k rounds are over: f 0, .., f (k - 1). -/
def upTo {α : Type} (f : Nat → α) (k : Nat) : List α := (List.range k).map f
theorem upTo_succ {α : Type} (f : Nat → α) (k : Nat) : upTo f (k + 1) = upTo f k ++ [f k] := by simp [upTo, List.range_succ]
theorem upTo_length {α : Type} (f : Nat → α) (k : Nat) : (upTo f k).length = k := by simp [upTo]

/-- What a round keeps: all that lay below n₀, and the box of the slice. -/
def KpB (n₀ Bs : Nat) (W W' : World) : Prop := Below n₀ W W' ∧ ∀ v, W.cell? ⟨Bs, 0, none⟩ = some v → W'.cell? ⟨Bs, 0, none⟩ = some v
theorem KpB.refl (n₀ Bs : Nat) (W : World) : KpB n₀ Bs W W := ⟨Below.refl _ _, fun _ h => h⟩
theorem KpB.trans {n₀ Bs : Nat} {A B C : World} (h : KpB n₀ Bs A B) (k : KpB n₀ Bs B C) : KpB n₀ Bs A C := ⟨h.1.trans k.1, fun v hv => k.2 v (h.2 v hv)⟩
theorem KpB.obj {n₀ Bs : Nat} {w : World} (hn : n₀ ≤ w.heap.size) (W : World) (l : Nat) (o o' : Obj) (hl : w.heap.size ≤ l) (h : W.heap[l]? = some o) (hc : o.isCells = false) (hw : o.isWalk = false) : KpB n₀ Bs W (W.putObj l o') := by
  refine ⟨belowK_b hn W l o o' hl h hc hw, fun v hv => ?_⟩
  have hne : Bs ≠ l := by
    rintro rfl
    simp only [World.cell?, h] at hv
    cases o <;> simp [Obj.isCells] at hc hv
  refine Eq.trans ?_ hv
  exact World.cell?_of_block ((grownBy_putObj' W l o').block Bs (by
    have := World.block_lt_of_cell? _ _ hv
    exact this) (fun e => hne (by injection e)))

set_option maxRecDepth 100000 in
set_option maxHeartbeats 2000000 in
theorem bw1_in {α : Type} (encs : α → Array Value) (f : Nat → α) (F : Fence) (N : Nat) (hF : F.fn 209) (hro : F.round = none) (hN : 1 ≤ N) (l Bs n₀ n c : Nat) (A : Option Addr) (zs : List Int) (hn : n ≤ 1048576)
    (hf : ∀ k, k < n → encs (f k) = #[.int .i64 ((n : Int) - 1 - k), .int .i64 (gi zs (n - 1 - k))]) (J Jx : List α → World → Prop)
    (hY : ∀ pre x W, J pre W → pre.length < n → YieldAt F (N - 1) Try.prog l (encs x) W fun e W' =>
      (e = .returned (.bool true) ∧ J (pre ++ [x]) W' ∧ KpB n₀ Bs W W') ∨ (e = .returned (.bool false) ∧ Jx (pre ++ [x]) W'))
    (W : World) (hBs : W.cell? ⟨Bs, 0, none⟩ = some (.slice A n c)) (h : Sl W n₀ A n c zs) (h0 : J [] W) :
    CallsIn F N Try.prog 209 #[.func (.yield l) #[] #[], .pointer (some ⟨Bs, 0, none⟩)] W fun e W' => (∃ v, e = .returned v) ∧
      ((∃ ys, ys = upTo f n ∧ J ys W') ∨ (∃ pre, (∃ k, k ≤ n ∧ pre = upTo f k) ∧ Jx pre W')) := by
  refine callsIn_of_wp Try.func209 rfl hF ?_ hro
  simp only [Try.ntmps209, List.size_toArray, List.length_cons, List.length_nil, Nat.reduceAdd, Nat.reduceSub, Array.replicate_succ, Array.replicate_zero, List.push_toArray, List.append_toArray, List.nil_append, List.cons_append]
  gi_wp2
  gi_loopw [3] (fun i wr => ∃ k : Nat, k ≤ n ∧ i = .int .i64 ((n : Int) - 1 - k) ∧ J (upTo f k) wr ∧ KpB n₀ Bs W wr)
    (fun i _ => (intOf i + 1).toNat)
  case atStart => exact ⟨0, Nat.zero_le _, by simp, h0, KpB.refl _ _ _⟩
  case round =>
    obtain ⟨k, hk, rfl, hJs, hnx⟩ := hrel
    by_cases hlt : k < n
    · obtain ⟨b, off, rfl, hb, hc⟩ := h.at_ (by omega)
      have hcx : wr.cell? ⟨b, off + (n - 1 - k), none⟩ = some (.int .i64 (gi zs (n - 1 - k))) := (hnx.1.cell (p := ⟨b, _, none⟩) hb).trans (hc (n - 1 - k) (by omega))
      have hBx : wr.cell? ⟨Bs, 0, none⟩ = some (.slice (some ⟨b, off, none⟩) n c) := hnx.2 _ hBs
      obtain ⟨fn, tmps, assign, body, hy, hR⟩ := hY _ (f k) wr hJs (by rw [upTo_length]; exact hlt)
      rw [hf k hlt] at hy
      gi_wp2
      refine hR.mono ?_
      rintro e W3 (⟨rfl, hJ3, hk3⟩ | ⟨rfl, hJx3⟩)
      · gi_wp2
        go_roundw
        case rel => exact ⟨k + 1, by omega, by go_num, by rw [upTo_succ]; exact hJ3, hnx.trans hk3⟩
        case measure => simp [intOf]; omega
      · gi_wp2
        refine bodyPost_ret (results_none rfl _ _ _) rfl ?_
        exact ⟨⟨_, rfl⟩, .inr ⟨_, ⟨k + 1, by omega, (upTo_succ _ _).symm⟩, hJx3⟩⟩
    · obtain rfl : k = n := by omega
      gi_wp2
      go_end0
      exact ⟨⟨_, rfl⟩, .inl ⟨_, rfl, hJs⟩⟩

theorem bw_in (F : Fence) (N : Nat) (hF : F.fn 176) (hro : F.round = none) (A : Option Addr) (n c : Nat) (w : World) :
    CallsIn F N Try.prog 176 #[.slice A n c] w fun e w' => e = .returned (.func (.func 209) #[] #[.pointer (some ⟨w.heap.size, 0, none⟩)]) ∧ w' = w.alloc (.cells #[.slice A n c] 22) := by
  refine callsIn_of_wp Try.func176 rfl hF ?_ hro
  simp only [Try.ntmps176, List.size_toArray, List.length_cons, List.length_nil, Nat.reduceAdd, Nat.reduceSub, Array.replicate_succ, Array.replicate_zero, List.push_toArray, List.append_toArray, List.nil_append, List.cons_append]
  gi_wp2
  go_ret
  exact ⟨rfl, rfl⟩

theorem bw_stops {α : Type} (encs : α → Array Value) (f : Nat → α) (F : Fence) (N : Nat) (hF : F.fn 209) (hro : F.round = none) (hN : 1 ≤ N) (Bs n₀ n c : Nat) (A : Option Addr) (zs : List Int) (hn : n ≤ 1048576)
    (hf : ∀ k, k < n → encs (f k) = #[.int .i64 ((n : Int) - 1 - k), .int .i64 (gi zs (n - 1 - k))])
    (w : World) (hBs : Bs < w.heap.size) (hn₀ : n₀ ≤ w.heap.size) (hc : w.cell? ⟨Bs, 0, none⟩ = some (.slice A n c)) (h : Sl w n₀ A n c zs) :
    SeqStopsK F N Try.prog 209 #[.pointer (some ⟨Bs, 0, none⟩)] encs (KpB n₀ Bs) (fun ys => ys = upTo f n) (fun pre => ∃ k, k ≤ n ∧ pre = upTo f k) n w := fun l J Jx W hW _ _ hY h0 =>
  bw1_in encs f F N hF hro hN l Bs n₀ n c A zs hn hf J Jx hY W ((hW.cell (p := ⟨Bs, 0, none⟩) hBs).trans hc) (h.keep fun p hp => hW.cell (by omega)) h0
end Go.Proofs.Ytneflhachjlmkaa
