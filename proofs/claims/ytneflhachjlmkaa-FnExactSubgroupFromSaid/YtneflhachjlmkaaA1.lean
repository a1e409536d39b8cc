
/- The walks of within, l01In, Metric.rest, isOrder, l01Divisor. -/
import Derived.Test.YtneflhachjlmkaaW1
import Derived.Test.YtneflhachjlmkaaOrd
import Derived.WalkLawsBesides
namespace Go.Proofs.Ytneflhachjlmkaa
open Go Go.RowKit
set_option linter.unusedSimpArgs false
set_option linter.unusedVariables false

def inB (n lo hi : Int) : Bool := decide (lo ≤ n ∧ n ≤ hi)
theorem inB_t {n lo hi : Int} (h : lo ≤ n) (h' : n ≤ hi) : inB n lo hi = true := by simp [inB, h, h']
theorem inB_f1 {n lo hi : Int} (h : ¬ lo ≤ n) : inB n lo hi = false := by simp [inB, h]
theorem inB_f2 {n lo hi : Int} (h : ¬ n ≤ hi) : inB n lo hi = false := by simp [inB, h]

theorem within_any (n lo hi : Int) (w : World) : Calls Try.prog 137 #[.int .i64 n, .int .i64 lo, .int .i64 hi] w (Qt w (.bool (inB n lo hi))) := by
  by_cases h1 : lo ≤ n
  · by_cases h2 : n ≤ hi
    · rw [inB_t h1 h2]
      go_enter Try.func137, Try.ntmps137
      go_wp2
      go_ret
      exact Qt.same
    · rw [inB_f2 h2]
      go_enter Try.func137, Try.ntmps137
      go_wp2
      go_ret
      exact Qt.same
  · rw [inB_f1 h1]
    go_enter Try.func137, Try.ntmps137
    go_wp2
    go_ret
    exact Qt.same
theorem l01In_any (n lo hi : Int) (w : World) : Calls Try.prog 139 #[.int .i64 n, .int .i64 lo, .int .i64 hi] w (Qt w (.bool (inB n lo hi))) := by
  by_cases h1 : lo ≤ n
  · by_cases h2 : n ≤ hi
    · rw [inB_t h1 h2]
      go_enter Try.func139, Try.ntmps139
      go_wp2
      go_ret
      exact Qt.same
    · rw [inB_f2 h2]
      go_enter Try.func139, Try.ntmps139
      go_wp2
      go_ret
      exact Qt.same
  · rw [inB_f1 h1]
    go_enter Try.func139, Try.ntmps139
    go_wp2
    go_ret
    exact Qt.same
theorem inB_f {n lo hi : Int} (h : ¬ (lo ≤ n ∧ n ≤ hi)) : inB n lo hi = false := by simp only [inB, h, decide_false]
theorem within_t (n lo hi : Int) (w : World) (h1 : lo ≤ n) (h2 : n ≤ hi) : Calls Try.prog 137 #[.int .i64 n, .int .i64 lo, .int .i64 hi] w (Qt w (.bool true)) := by
  have := within_any n lo hi w; rwa [inB_t h1 h2] at this
theorem within_f (n lo hi : Int) (w : World) (h : ¬ (lo ≤ n ∧ n ≤ hi)) : Calls Try.prog 137 #[.int .i64 n, .int .i64 lo, .int .i64 hi] w (Qt w (.bool false)) := by
  have := within_any n lo hi w; rwa [inB_f h] at this
theorem l01In_t (n lo hi : Int) (w : World) (h1 : lo ≤ n) (h2 : n ≤ hi) : Calls Try.prog 139 #[.int .i64 n, .int .i64 lo, .int .i64 hi] w (Qt w (.bool true)) := by
  have := l01In_any n lo hi w; rwa [inB_t h1 h2] at this
theorem l01In_f (n lo hi : Int) (w : World) (h : ¬ (lo ≤ n ∧ n ≤ hi)) : Calls Try.prog 139 #[.int .i64 n, .int .i64 lo, .int .i64 hi] w (Qt w (.bool false)) := by
  have := l01In_any n lo hi w; rwa [inB_f h] at this

theorem rest_eq (n q : Int) (hq : 1 ≤ q) : (n.tmod q + q).tmod q = n % q := by
  have h2 : 0 ≤ n.tmod q + q := by
    have := Int.lt_tmod_of_pos n (show 0 < q by omega)
    omega
  rw [Int.tmod_eq_emod_of_nonneg h2, Int.add_emod_right]
  rw [Int.tmod_def, Int.sub_mul_emod_self_left]

theorem rest_any (o v : Value) (q n : Int) (w : World) (h1 : 1 ≤ q) (h2 : q ≤ 1000000000) :
    Calls Try.prog 129 #[.agg #[o, .int .i64 q, v], .int .i64 n] w (Re w (.int .i64 (n % q))) := by
  have k1 : IntKind.i64.wrap (n.tmod q + q) = n.tmod q + q := by
    refine wr64 _ ⟨?_, ?_⟩
    · have := Int.lt_tmod_of_pos n (show 0 < q by omega); omega
    · have := Int.tmod_lt_of_pos n (show 0 < q by omega); omega
  have k2 : ¬ q = 0 := by omega
  have k3 := rest_eq n q h1
  go_enter Try.func129, Try.ntmps129
  go_wp2
  go_quiet (fail)
  go_wp2
  go_ret
  exact ⟨rfl, (by repeat (first | assumption | exact Below.refl _ _ | apply below_drewN | apply Below.drew | apply Below.alloc | apply Below.setCell | omega | (focus (simp; done)) | (focus (simp; omega))))⟩

def ordB (n : Int) : Bool := decide (1 ≤ n ∧ (55440 : Int) % n = 0)
theorem ordB_t {n : Int} (h : 1 ≤ n) (h2 : (55440 : Int) % n = 0) : ordB n = true := by simp [ordB, h, h2]
theorem ordB_f1 {n : Int} (h : ¬ 1 ≤ n) : ordB n = false := by simp [ordB, h]
theorem ordB_f2 {n : Int} (h2 : ¬ (55440 : Int) % n = 0) : ordB n = false := by simp [ordB, h2]
theorem ordB_iff {n : Int} : ordB n = true ↔ 1 ≤ n ∧ (55440 : Int) % n = 0 := by simp [ordB]

theorem isOrder_any (n : Int) (w : World) : Calls Try.prog 116 #[.int .i64 n] w (Qt w (.bool (ordB n))) := by
  by_cases h1 : 1 ≤ n
  · have h0 : ¬ n = 0 := by omega
    have h0' : (n == 0) = false := by simpa using h0
    by_cases h2 : (55440 : Int) % n = 0
    · rw [ordB_t h1 h2]
      have k : ((55440 : Int) % n == 0) = true := by simpa using h2
      have H := hide h2
      clear h2
      go_enter Try.func116, Try.ntmps116
      go_wp2
      go_ret
      exact Qt.same
    · rw [ordB_f2 h2]
      have k : ((55440 : Int) % n == 0) = false := by simpa using h2
      go_enter Try.func116, Try.ntmps116
      go_wp2
      go_ret
      exact Qt.same
  · rw [ordB_f1 h1]
    have k : decide (1 ≤ n) = false := by simpa using h1
    go_enter Try.func116, Try.ntmps116
    go_wp2
    go_ret
    exact Qt.same
theorem l01Divisor_any (n : Int) (w : World) : Calls Try.prog 127 #[.int .i64 n] w (Qt w (.bool (ordB n))) := by
  by_cases h1 : 1 ≤ n
  · have h0 : ¬ n = 0 := by omega
    have h0' : (n == 0) = false := by simpa using h0
    by_cases h2 : (55440 : Int) % n = 0
    · rw [ordB_t h1 h2]
      have k : ((55440 : Int) % n == 0) = true := by simpa using h2
      have H := hide h2
      clear h2
      go_enter Try.func127, Try.ntmps127
      go_wp2
      go_ret
      exact Qt.same
    · rw [ordB_f2 h2]
      have k : ((55440 : Int) % n == 0) = false := by simpa using h2
      go_enter Try.func127, Try.ntmps127
      go_wp2
      go_ret
      exact Qt.same
  · rw [ordB_f1 h1]
    have k : decide (1 ≤ n) = false := by simpa using h1
    go_enter Try.func127, Try.ntmps127
    go_wp2
    go_ret
    exact Qt.same

theorem within_v (b : Bool) (n lo hi : Int) (w : World) (h : inB n lo hi = b) : Calls Try.prog 137 #[.int .i64 n, .int .i64 lo, .int .i64 hi] w (Qt w (.bool b)) := h ▸ within_any n lo hi w
theorem isOrder_v (b : Bool) (n : Int) (w : World) (h : ordB n = b) : Calls Try.prog 116 #[.int .i64 n] w (Qt w (.bool b)) := h ▸ isOrder_any n w
theorem l01In_v (b : Bool) (n lo hi : Int) (w : World) (h : inB n lo hi = b) : Calls Try.prog 139 #[.int .i64 n, .int .i64 lo, .int .i64 hi] w (Qt w (.bool b)) := h ▸ l01In_any n lo hi w
theorem l01Divisor_v (b : Bool) (n : Int) (w : World) (h : ordB n = b) : Calls Try.prog 127 #[.int .i64 n] w (Qt w (.bool b)) := h ▸ l01Divisor_any n w
end Go.Proofs.Ytneflhachjlmkaa
