
/- The walks of plus, rest, isNormalised of the program's cocycles. -/
import Derived.Test.YthjlpgaoemdmkaaCI1
import Derived.Test.YthjlpgaoemdmkaaCS2
namespace Go.Proofs.Ythjlpgaoemdmkaa
open Go Go.RowKit Grp
set_option linter.unusedSimpArgs false
set_option linter.unusedVariables false
set_option maxRecDepth 100000

theorem plus_any (w : World) (A : Option Addr) (n c : Nat) (os : List Int) (m d : Value) (x y : Nat) (h : Sl w w.heap.size A n c os) (hH : OkH os) (hx : x ≤ 100) (hy : y ≤ 100) :
    Calls Try.prog 76 #[.agg #[.slice A n c, m, d], .int .i64 x, .int .i64 y] w (Re w (.int .i64 (An os x y))) := by
  have hw1 : IntKind.i64.wrap (x : Int) = x := wr64 _ ⟨by omega, by omega⟩
  have hw2 : IntKind.i64.wrap (y : Int) = y := wr64 _ ⟨by omega, by omega⟩
  have hr := arH_rng hH (x : Int) y
  have hp := hH.p16
  have HE := hide (An_eq hH x y)
  obtain ⟨a, ha⟩ : ∃ a, An os x y = a := ⟨_, rfl⟩
  have hal : a ≤ 16 := by have := HE.out; rw [ha] at this; omega
  have hw3 : IntKind.i64.wrap (a : Int) = a := wr64 _ ⟨by omega, by omega⟩
  have HC := hide (fun W (hW : Sl W W.heap.size A n c os) => by
    have h9 := addElements_h W A n c os x y hH (by omega) (by omega) (by omega) (by omega) hW
    rw [An_eq hH x y, ha] at h9
    exact h9)
  rw [ha]
  clear ha hr
  go_enter Try.func76, Try.ntmps76
  go_wp2_with fail
  refine (HC.out _ ((h.below ((Below.refl _ _).alloc (Nat.le_refl _) _)).more (by simp))).mono ?_
  rintro e w1 ⟨rfl, hb⟩
  go_wp2_with fail
  go_ret
  exact ⟨rfl, ((Below.refl _ _).alloc (Nat.le_refl _) _).trans (hb.mono (by simp))⟩
theorem rest_eq' (n q : Int) (hq : 1 ≤ q) : (n.tmod q + q).tmod q = n % q := by
  have h2 : 0 ≤ n.tmod q + q := by
    have := Int.lt_tmod_of_pos n (show 0 < q by omega)
    omega
  rw [Int.tmod_eq_emod_of_nonneg h2, Int.add_emod_right]
  rw [Int.tmod_def, Int.sub_mul_emod_self_left]
theorem restC_any (w : World) (o v : Value) (q n : Int) (h1 : 1 ≤ q) (h2 : q ≤ 1000000000) :
    Calls Try.prog 75 #[.agg #[o, .int .i64 q, v], .int .i64 n] w (Re w (.int .i64 (n % q))) := by
  have k1 : IntKind.i64.wrap (n.tmod q + q) = n.tmod q + q := by
    refine wr64 _ ⟨?_, ?_⟩
    · have := Int.lt_tmod_of_pos n (show 0 < q by omega); omega
    · have := Int.tmod_lt_of_pos n (show 0 < q by omega); omega
  have k2 : ¬ q = 0 := by omega
  have k3 := rest_eq' n q h1
  obtain ⟨r, hr⟩ : ∃ r, n % q = r := ⟨_, rfl⟩
  rw [hr] at k3 ⊢
  clear hr
  go_enter Try.func75, Try.ntmps75
  go_wp2_with fail
  go_quiet (fail)
  go_wp2_with fail
  go_ret
  exact ⟨rfl, below_drewN ((Below.refl _ _).alloc (Nat.le_refl _) _) _⟩
set_option maxHeartbeats 4000000 in
theorem isNormalised_any (w : World) (A : Option Addr) (n c : Nat) (M : Int) (f b off : Nat) (b1 o1 c1 : Nat → Nat) (b2 o2 c2 : Nat → Nat → Nat) (t : Tb) (B : Nat) (hV : View w B t.length b off b1 o1 c1 b2 o2 c2 (t3 t)) (hB : B ≤ w.heap.size) (hn8 : t.length ≤ 1048576) :
    Calls Try.prog 83 #[.agg #[.slice A n c, .int .i64 M, .slice (some ⟨b, off, none⟩) t.length f]] w (Re w (.bool (nrB t))) := by
  go_enter Try.func83, Try.ntmps83
  go_wp2_with fail
  obtain ⟨W, hW⟩ : ∃ W, w.alloc (.cells #[.slice A n c, .int .i64 M, .slice (some ⟨b, off, none⟩) t.length f] 25) = W := ⟨_, rfl⟩
  have hbW : Below w.heap.size w W := by rw [← hW]; exact (by repeat (first | assumption | exact Below.refl _ _ | apply below_drewN | apply Below.drew | apply Below.alloc | apply Below.setCell | omega | (focus (simp; done)) | (focus (simp; omega))))
  have hszW : w.heap.size < W.heap.size := by rw [← hW]; simp
  have hsW := hide (show W.heap.size = w.heap.size + 1 by rw [← hW]; simp)
  have q0 : W.cell? ⟨w.heap.size, 0, none⟩ = some (.slice A n c) := by rw [← hW]; exact (Blk.new _ _ _).cell 0
  have q1 : W.cell? ⟨w.heap.size, 1, none⟩ = some (.int .i64 M) := by rw [← hW]; exact (Blk.new _ _ _).cell 1
  have q2 : W.cell? ⟨w.heap.size, 2, none⟩ = some (.slice (some ⟨b, off, none⟩) t.length f) := by rw [← hW]; exact (Blk.new _ _ _).cell 2
  rw [hW]
  clear hW
  have V := hV.le (hbW.mono hB)
  clear hsW
  go_loopw [12] (fun i wr => ∃ p : Nat, p ≤ t.length ∧ i = .int .i64 p ∧ Hid (∀ x y z, x < p → y < t.length → z < t.length → (x = 0 ∨ y = 0 ∨ z = 0) → t3 t x y z = 0) ∧ ∃ d, W.drewN d = wr) (fun i _ => t.length - (intOf i).toNat)
  case atStart => exact ⟨0, by omega, rfl, hide fun x y z hx => absurd hx (by omega), 0, rfl⟩
  case round =>
    obtain ⟨p, hp, rfl, HP, d, rfl⟩ := hrel
    by_cases hlp : p < t.length
    · have e1 := (V.h1 p hlp).1
      go_wp2_with fail
      go_loopw [19] (fun i wr => ∃ q : Nat, q ≤ t.length ∧ i = .int .i64 q ∧ Hid (∀ y z, y < q → z < t.length → (p = 0 ∨ y = 0 ∨ z = 0) → t3 t p y z = 0) ∧ ∃ d, W.drewN d = wr) (fun i _ => t.length - (intOf i).toNat)
      case atStart => exact ⟨0, by omega, rfl, hide fun y z hy => absurd hy (by omega), d, rfl⟩
      case round =>
        obtain ⟨q, hq, rfl, HQ, d, rfl⟩ := hrel
        by_cases hlq : q < t.length
        · have g2 := (V.h2 p q hlp hlq).1
          go_wp2_with fail
          go_loopw [26] (fun i wr => ∃ r : Nat, r ≤ t.length ∧ i = .int .i64 r ∧ Hid (∀ z, z < r → (p = 0 ∨ q = 0 ∨ z = 0) → t3 t p q z = 0) ∧ ∃ d, W.drewN d = wr) (fun i _ => t.length - (intOf i).toNat)
          case atStart => exact ⟨0, by omega, rfl, hide fun z hz => absurd hz (by omega), d, rfl⟩
          case round =>
            obtain ⟨r, hr, rfl, HR, d, rfl⟩ := hrel
            by_cases hlr : r < t.length
            · have g3 := V.h3 p q r hlp hlq hlr
              obtain ⟨v, ev⟩ : ∃ v, t3 t p q r = v := ⟨_, rfl⟩
              rw [ev] at g3
              have EV := hide ev
              clear ev
              by_cases hv : v = 0
              · subst hv
                go_wp2_with fail
                go_roundw
                case rel => exact ⟨r + 1, by omega, by go_num, hide fun j hj => (by rcases Nat.lt_succ_iff_lt_or_eq.1 hj with h | rfl; exact HR.out j h; exact fun _ => EV.out), d, rfl⟩
                case measure => simp [intOf] <;> omega
              · have hvb : (v != 0) = true := by simp [hv]
                by_cases h0 : p = 0 ∨ q = 0 ∨ r = 0
                · have HE := hide (nrB_f (t := t) fun hn => hv (by rw [← EV.out]; exact hn p q r hlp hlq hlr h0))
                  clear hv
                  have hpb : ((p : Int) == 0) = decide (p = 0) := by by_cases h : p = 0 <;> simp [h]
                  have hqb : ((q : Int) == 0) = decide (q = 0) := by by_cases h : q = 0 <;> simp [h]
                  have hrb : ((r : Int) == 0) = decide (r = 0) := by by_cases h : r = 0 <;> simp [h]
                  by_cases hp0 : p = 0
                  · rw [show decide (p = 0) = true by simp [hp0]] at hpb
                    clear h0 hp0 hqb hrb
                    go_wp2_with fail
                    go_ret
                    exact ⟨by rw [HE.out]; rfl, below_drewN hbW d⟩
                  · rw [show decide (p = 0) = false by simp [hp0]] at hpb
                    by_cases hq0 : q = 0
                    · rw [show decide (q = 0) = true by simp [hq0]] at hqb
                      clear h0 hp0 hq0 hrb
                      go_wp2_with fail
                      go_ret
                      exact ⟨by rw [HE.out]; rfl, below_drewN hbW d⟩
                    · rw [show decide (q = 0) = false by simp [hq0]] at hqb
                      have hr0 : r = 0 := by omega
                      rw [show decide (r = 0) = true by simp [hr0]] at hrb
                      clear h0 hp0 hq0 hr0
                      go_wp2_with fail
                      go_ret
                      exact ⟨by rw [HE.out]; rfl, below_drewN hbW d⟩
                · have hpb : ((p : Int) == 0) = false := by simp; omega
                  have hqb : ((q : Int) == 0) = false := by simp; omega
                  have hrb : ((r : Int) == 0) = false := by simp; omega
                  have H0 := hide h0
                  clear hv h0
                  go_wp2_with fail
                  go_roundw
                  case rel => exact ⟨r + 1, by omega, by go_num, hide fun j hj => (by rcases Nat.lt_succ_iff_lt_or_eq.1 hj with h | rfl; exact HR.out j h; exact fun h => absurd h H0.out), d, rfl⟩
                  case measure => simp [intOf] <;> omega
            · obtain rfl : r = t.length := by omega
              go_wp2_with fail
              go_roundw
              case rel => exact ⟨q + 1, by omega, by go_num, hide fun y z hy hz => (by rcases Nat.lt_succ_iff_lt_or_eq.1 hy with h | rfl; exact HQ.out y z h hz; exact HR.out z hz), d, rfl⟩
              case measure => simp [intOf] <;> omega
        · obtain rfl : q = t.length := by omega
          go_wp2_with fail
          go_roundw
          case rel => exact ⟨p + 1, by omega, by go_num, hide fun x y z hx hy hz => (by rcases Nat.lt_succ_iff_lt_or_eq.1 hx with h | rfl; exact HP.out x y z h hy hz; exact HQ.out y z hy hz), d, rfl⟩
          case measure => simp [intOf] <;> omega
    · obtain rfl : p = t.length := by omega
      have HE := hide (nrB_t (show Nrm t from HP.out))
      go_wp2_with fail
      go_ret
      exact ⟨by rw [HE.out]; rfl, below_drewN hbW d⟩
end Go.Proofs.Ythjlpgaoemdmkaa
