
/- The walk of l17Normal of the reference. -/
import Derived.Test.YthjlpgaoemdmkaaCS1
namespace Go.Proofs.Ythjlpgaoemdmkaa
open Go Go.RowKit Grp
set_option linter.unusedSimpArgs false
set_option linter.unusedVariables false
set_option maxRecDepth 100000

def nrAt (t : Tb) (x y : Nat) : Prop := t3 t 0 x y = 0 ∧ t3 t x 0 y = 0 ∧ t3 t x y 0 = 0
theorem nrm_of {t : Tb} (h : ∀ x y, x < t.length → y < t.length → nrAt t x y) : Nrm t := by
  intro x y z hx hy hz h0
  rcases h0 with rfl | rfl | rfl
  · exact (h y z hy hz).1
  · exact (h x z hx hz).2.1
  · exact (h x y hx hy).2.2
theorem nrB_no {t : Tb} {x y : Nat} (hx : x < t.length) (hy : y < t.length) (h : ¬ nrAt t x y) : nrB t = false := nrB_f fun hn => h ⟨hn 0 x y (by omega) hx hy (.inl rfl), hn x 0 y hx (by omega) hy (.inr (.inl rfl)), hn x y 0 hx hy (by omega) (.inr (.inr rfl))⟩
set_option maxHeartbeats 4000000 in
theorem l17Normal_any (w : World) (A : Option Addr) (n c : Nat) (M : Int) (f b off : Nat) (b1 o1 c1 : Nat → Nat) (b2 o2 c2 : Nat → Nat → Nat) (t : Tb) (B : Nat) (hV : View w B t.length b off b1 o1 c1 b2 o2 c2 (t3 t)) (hB : B ≤ w.heap.size) (hn8 : t.length ≤ 1048576) :
    Calls Try.prog 90 #[.agg #[.slice A n c, .int .i64 M, .slice (some ⟨b, off, none⟩) t.length f]] w (Re w (.bool (nrB t))) := by
  go_enter Try.func90, Try.ntmps90
  go_wp2_with fail
  obtain ⟨W, hW⟩ : ∃ W, w.alloc (.cells #[.slice A n c, .int .i64 M, .slice (some ⟨b, off, none⟩) t.length f] 25) = W := ⟨_, rfl⟩
  have hbW : Below w.heap.size w W := by rw [← hW]; exact (by repeat (first | assumption | exact Below.refl _ _ | apply below_drewN | apply Below.drew | apply Below.alloc | apply Below.setCell | omega | (focus (simp; done)) | (focus (simp; omega))))
  have hszW : w.heap.size < W.heap.size := by rw [← hW]; simp
  have hsW := hide (show W.heap.size = w.heap.size + 1 by rw [← hW]; simp)
  have q0 : W.cell? ⟨w.heap.size, 0, none⟩ = some (.slice A n c) := by rw [← hW]; exact (Blk.new _ _ _).cell 0
  have q1 : W.cell? ⟨w.heap.size, 1, none⟩ = some (.int .i64 M) := by rw [← hW]; exact (Blk.new _ _ _).cell 1
  have q2 : W.cell? ⟨w.heap.size, 2, none⟩ = some (.slice (some ⟨b, off, none⟩) t.length f) := by rw [← hW]; exact (Blk.new _ _ _).cell 2
  rw [hW]
  clear hW
  have V := hV.le (hbW.mono hB)
  clear hsW
  go_loopw [4] (fun i wr => ∃ p : Nat, p ≤ t.length ∧ i = .int .i64 p ∧ Hid (∀ x y, x < p → y < t.length → nrAt t x y) ∧ ∃ d, W.drewN d = wr) (fun i _ => t.length - (intOf i).toNat)
  case atStart => exact ⟨0, by omega, rfl, hide fun x y hx => absurd hx (by omega), 0, rfl⟩
  case round =>
    obtain ⟨p, hp, rfl, HP, d, rfl⟩ := hrel
    by_cases hlp : p < t.length
    · go_wp2_with fail
      go_loopw [5] (fun i wr => ∃ q : Nat, q ≤ t.length ∧ i = .int .i64 q ∧ Hid (∀ y, y < q → nrAt t p y) ∧ ∃ d, W.drewN d = wr) (fun i _ => t.length - (intOf i).toNat)
      case atStart => exact ⟨0, by omega, rfl, hide fun y hy => absurd hy (by omega), d, rfl⟩
      case round =>
        obtain ⟨q, hq, rfl, HQ, d, rfl⟩ := hrel
        by_cases hlq : q < t.length
        · have a1 := (V.h1 0 (by omega)).1
          have a2 := (V.h2 0 p (by omega) hlp).1
          have a3 := V.h3 0 p q (by omega) hlp hlq
          have e1 := (V.h1 p hlp).1
          have e2 := (V.h2 p 0 hlp (by omega)).1
          have e3 := V.h3 p 0 q hlp (by omega) hlq
          have g2 := (V.h2 p q hlp hlq).1
          have g3 := V.h3 p q 0 hlp hlq (by omega)
          simp only [Nat.add_zero] at a1 e2 g3
          have n0 : 0 < t.length := by omega
          obtain ⟨x, ex⟩ : ∃ x, t3 t 0 p q = x := ⟨_, rfl⟩
          obtain ⟨y, ey⟩ : ∃ y, t3 t p 0 q = y := ⟨_, rfl⟩
          obtain ⟨z, ez⟩ : ∃ z, t3 t p q 0 = z := ⟨_, rfl⟩
          rw [ex] at a3
          rw [ey] at e3
          rw [ez] at g3
          have EX := hide ex
          have EY := hide ey
          have EZ := hide ez
          clear ex ey ez
          by_cases hx : x = 0
          · by_cases hy : y = 0
            · by_cases hz : z = 0
              · have HG := hide (show nrAt t p q from ⟨by rw [EX.out, hx], by rw [EY.out, hy], by rw [EZ.out, hz]⟩)
                subst hx
                subst hy
                subst hz
                go_wp2_with fail
                go_roundw
                case rel => exact ⟨q + 1, by omega, by go_num, hide fun j hj => (by rcases Nat.lt_succ_iff_lt_or_eq.1 hj with h | rfl; exact HQ.out j h; exact HG.out), d, rfl⟩
                case measure => simp [intOf] <;> omega
              · have HE := hide (nrB_no hlp hlq fun h => hz (by rw [← EZ.out]; exact h.2.2))
                have hzb : (z != 0) = true := by simp [hz]
                subst hx
                subst hy
                clear hz
                go_wp2_with fail
                go_ret
                exact ⟨by rw [HE.out]; rfl, below_drewN hbW d⟩
            · have HE := hide (nrB_no hlp hlq fun h => hy (by rw [← EY.out]; exact h.2.1))
              have hyb : (y != 0) = true := by simp [hy]
              subst hx
              clear hy
              go_wp2_with fail
              go_ret
              exact ⟨by rw [HE.out]; rfl, below_drewN hbW d⟩
          · have HE := hide (nrB_no hlp hlq fun h => hx (by rw [← EX.out]; exact h.1))
            have hxb : (x != 0) = true := by simp [hx]
            clear hx
            go_wp2_with fail
            go_ret
            exact ⟨by rw [HE.out]; rfl, below_drewN hbW d⟩
        · obtain rfl : q = t.length := by omega
          go_wp2_with fail
          go_roundw
          case rel => exact ⟨p + 1, by omega, by go_num, hide fun x y hx hy => (by rcases Nat.lt_succ_iff_lt_or_eq.1 hx with h | rfl; exact HP.out x y h hy; exact HQ.out y hy), d, rfl⟩
          case measure => simp [intOf] <;> omega
    · obtain rfl : p = t.length := by omega
      have HE := hide (nrB_t (nrm_of HP.out))
      go_wp2_with fail
      go_ret
      exact ⟨by rw [HE.out]; rfl, below_drewN hbW d⟩
theorem oret {w W : World} {o : Option (List Int)} {xs : List Int} (E : o = some xs) (hb : Below w.heap.size w W) {d : Nat} {cs : Array Value} (hc : cs.toList = xs.map (Value.int .i64)) {n g : Nat} (hn : xs.length = n) (hm : n ≤ maxLen) (hg : W.heap.size = g) :
    MkO w o (.returned (.slice (some ⟨g, 0, none⟩) n n)) ((W.drewN d).alloc (.cells cs 2)) := by
  subst hg
  rw [E]
  exact mkO_new (w0 := w) (Blk.new' _ _ _ _ rfl) hc hn hb.size hm ((below_drewN hb d).alloc hb.size _)
theorem cf5 {a b c e f : Int} (ha : 0 ≤ a ∧ a ≤ 999) (hb : 0 ≤ b ∧ b ≤ 999) (hc : 0 ≤ c ∧ c ≤ 999) (he : 0 ≤ e ∧ e ≤ 999) (hf : 0 ≤ f ∧ f ≤ 999) :
    IntKind.i64.wrap (a - b) = a - b ∧ IntKind.i64.wrap (a - b + c) = a - b + c ∧ IntKind.i64.wrap (a - b + c - e) = a - b + c - e ∧ IntKind.i64.wrap (a - b + c - e + f) = a - b + c - e + f ∧ -1998 ≤ a - b + c - e + f ∧ a - b + c - e + f ≤ 2997 :=
  ⟨wr64 _ ⟨by omega, by omega⟩, wr64 _ ⟨by omega, by omega⟩, wr64 _ ⟨by omega, by omega⟩, wr64 _ ⟨by omega, by omega⟩, by omega, by omega⟩
end Go.Proofs.Ythjlpgaoemdmkaa
