
/- The walks of delta, isCube, onlyOf, dualFault of the program. -/
import Derived.Test.YtljnalobedkohaaRS1
import Derived.Test.YtljnalobedkohaaAW
namespace Go.Proofs.Ytljnalobedkohaa
open Go Go.RowKit
set_option linter.unusedSimpArgs false
set_option linter.unusedVariables false
set_option maxRecDepth 100000

theorem delta_any (w : World) (i k : Nat) : Calls Try.prog 64 #[.int .i64 i, .int .i64 k] w (Qt w (.int .i64 (dl i k))) := by
  by_cases h : i = k
  · subst h
    have hE := hide (show dl i i = 1 from if_pos rfl)
    go_enter Try.func64, Try.ntmps64
    go_wp2_with fail
    go_ret
    exact Qt.mk' 0 rfl (int_eq hE.out.symm)
  · have hE := hide (show dl i k = 0 from if_neg h)
    have hb : ((i : Int) == (k : Int)) = false := by simp; omega
    clear h
    go_enter Try.func64, Try.ntmps64
    go_wp2_with fail
    go_ret
    exact Qt.mk' 0 rfl (int_eq hE.out.symm)

def badB (n : Nat) (r : List Int) : Bool := !(decide (r.length = n) && allIn 0 1000 r)
theorem badB_ok {n : Nat} {r : List Int} (h : badB n r = false) : RowOk n r := by
  simp only [badB, Bool.not_eq_false', Bool.and_eq_true, decide_eq_true_eq] at h
  refine ⟨h.1, fun x hx => ?_⟩
  have := List.all_eq_true.1 h.2 x hx
  simpa [inB] using this
theorem badB_no {n : Nat} {r : List Int} (h : badB n r = true) : ¬ RowOk n r := by
  intro hr
  simp only [badB, Bool.not_eq_true', Bool.and_eq_false_iff, decide_eq_false_iff_not] at h
  rcases h with h | h
  · exact h hr.1
  · have : allIn 0 1000 r = true := List.all_eq_true.2 fun x hx => by have := hr.2 x hx; simp [inB, this]
    rw [this] at h; cases h
theorem isCube1_any (w : World) (A : Option Addr) (k c p n : Nat) (r : List Int) (h : Sl w w.heap.size A k c r) (hp : w.cell? ⟨p, 0, none⟩ = some (.int .i64 n)) (hk : k ≤ 1048576) :
    Calls Try.prog 44 #[.slice A k c, .pointer (some ⟨p, 0, none⟩)] w (Re w (.bool (badB n r))) := by
  obtain rfl := h.len
  by_cases hl : r.length = n
  · have ha := allWithin_any w w.heap.size A r.length c r 0 1000 h (Nat.le_refl _) hk
    obtain ⟨b, eb⟩ : ∃ b, allIn 0 1000 r = b := ⟨_, rfl⟩
    rw [eb] at ha
    have hE := hide (show badB n r = !b by simp [badB, hl, eb])
    have hlb : ((r.length : Int) != (n : Int)) = false := by simp [hl]
    have HA := hide ha
    clear eb hl ha
    cases b
    all_goals
      go_enter Try.func44, Try.ntmps44
      go_wp2_with fail
      refine HA.out.mono ?_
      rintro e w' ⟨rfl, hb⟩
      go_wp2_with fail
      go_ret
      exact ⟨by rw [hE.out]; rfl, hb⟩
  · have hE := hide (show badB n r = true by simp [badB, hl])
    have hlb : ((r.length : Int) != (n : Int)) = true := by simp; omega
    clear hl
    go_enter Try.func44, Try.ntmps44
    go_wp2_with fail
    go_ret
    exact ⟨by rw [hE.out]; rfl, Below.refl _ _⟩
theorem cube_index (W w : World) (A : Option Addr) (n c : Nat) (xs : List (List Int)) (P : List Int → Bool) (p : Nat) (hx : Sl2 W W.heap.size A n c xs) (hn : n ≤ 1048576) (hw : Below W.heap.size W w)
    (hcall : ∀ (k : Nat) x A' n' c', xs[k]? = some x → Sl W W.heap.size A' n' c' x → ∀ wd, Below W.heap.size W wd → Calls Try.prog 44 #[.slice A' n' c', .pointer (some ⟨p, 0, none⟩)] wd (Re wd (.bool (P x)))) :
    Calls Try.prog 61 #[.slice A n c, .func (.func 44) #[] #[.pointer (some ⟨p, 0, none⟩)]] w (fun e w' => ∃ r : Int, e = .returned (.int .i64 r) ∧ decide (0 ≤ r) = xs.any P ∧ Below W.heap.size W w') := by
  obtain rfl := hx.len
  have HC := hide hcall
  clear hcall
  go_enter Try.func61, Try.ntmps61
  go_wp2_with fail
  go_loopw [8] (fun i wr => ∃ k : Nat, k ≤ xs.length ∧ i = .int .i64 k ∧ Hid (∀ (j : Nat) x, j < k → xs[j]? = some x → P x = false) ∧ Below W.heap.size W wr) (fun i _ => xs.length - (intOf i).toNat)
  case atStart => exact ⟨0, by omega, rfl, hide fun j _ hj => absurd hj (by omega), hw⟩
  case round =>
    clear hw
    obtain ⟨k, hk, rfl, HP, hBe⟩ := hrel
    by_cases hlt : k < xs.length
    · obtain ⟨x, hxk⟩ := get_at hlt
      obtain ⟨b, off, rfl, hb⟩ := RdL.addr hx (by omega)
      obtain ⟨A', n', c', c0, hs⟩ := hx.row hxk
      have c1 := (hBe.cell (p := ⟨b, off + k, none⟩) hb).trans c0
      obtain rfl := hs.len
      have hcl := HC.out k x A' _ c' hxk hs
      have HX := hide hxk
      clear hxk c0 hs
      cases hv : P x with
      | true =>
        have hT := hide (show xs.any P = true from List.any_eq_true.2 ⟨_, get_mem HX.out, hv⟩)
        rw [hv] at hcl
        have HL := hide hcl
        clear hv hcl
        go_wp2_with fail
        clear c1
        refine (HL.out _ hBe).mono ?_
        rintro e w3 ⟨rfl, hb3⟩
        replace hBe := hBe.trans (hb3.mono hBe.size)
        clear hb3
        go_wp2_with fail
        go_ret
        exact ⟨k, rfl, by rw [hT.out]; simp, hBe⟩
      | false =>
        rw [hv] at hcl
        have HL := hide hcl
        have hv' := hide hv
        clear hv hcl
        go_wp2_with fail
        clear c1
        refine (HL.out _ hBe).mono ?_
        rintro e w3 ⟨rfl, hb3⟩
        replace hBe := hBe.trans (hb3.mono hBe.size)
        clear hb3
        go_wp2_with fail
        go_roundw
        case rel => exact ⟨k + 1, by omega, by go_num, hide fun j y hj hy => (by rcases Nat.lt_succ_iff_lt_or_eq.1 hj with h | rfl; exact HP.out j y h hy; rw [HX.out] at hy; injection hy with hy; rw [← hy]; exact hv'.out), hBe⟩
        case measure => simp [intOf] <;> omega
    · obtain rfl : k = xs.length := by omega
      have hT := hide (show xs.any P = false from by
        refine Bool.eq_false_iff.2 fun ha => ?_
        obtain ⟨x, hx, he⟩ := List.any_eq_true.1 ha
        obtain ⟨j, hj, rfl⟩ := List.getElem_of_mem hx
        rw [HP.out j _ hj (List.getElem?_eq_getElem hj)] at he
        cases he)
      go_wp2
      go_ret
      exact ⟨-1, rfl, by rw [hT.out]; rfl, hBe⟩
theorem cube_contains (W w : World) (A : Option Addr) (n c : Nat) (xs : List (List Int)) (P : List Int → Bool) (p : Nat) (hx : Sl2 W W.heap.size A n c xs) (hn : n ≤ 1048576) (hw : Below W.heap.size W w)
    (hcall : ∀ (k : Nat) x A' n' c', xs[k]? = some x → Sl W W.heap.size A' n' c' x → ∀ wd, Below W.heap.size W wd → Calls Try.prog 44 #[.slice A' n' c', .pointer (some ⟨p, 0, none⟩)] wd (Re wd (.bool (P x)))) :
    Calls Try.prog 43 #[.slice A n c, .func (.func 44) #[] #[.pointer (some ⟨p, 0, none⟩)]] w (fun e w' => e = .returned (.bool (xs.any P)) ∧ Below W.heap.size W w') := by
  have HI := hide (cube_index W w A n c xs P p hx hn hw hcall)
  clear hcall
  go_enter Try.func43, Try.ntmps43
  go_wp2_with fail
  refine HI.out.mono ?_
  rintro e w' ⟨r, rfl, hr, hb⟩
  have hR := hide hr
  clear hr
  go_wp2
  go_ret
  exact ⟨by rw [← hR.out]; rfl, hb⟩

theorem cb_iff {t : Tb} (h : ∀ m ∈ t, MatOk t.length m) : cbB t = decide (1 ≤ t.length ∧ t.length ≤ 16) := by
  by_cases h1 : 1 ≤ t.length ∧ t.length ≤ 16
  · rw [cbB_t ⟨h1.1, h1.2, h⟩]; simp [h1]
  · rw [cbB_f fun hc => h1 ⟨hc.pos, hc.le⟩]; simp [h1]
set_option maxHeartbeats 2000000 in
theorem isCube_any (w : World) (A : Option Addr) (n c : Nat) (t : Tb) (h : Sl3 w w.heap.size A n c t) (hn : n ≤ 1048576) (hr : ∀ xs ∈ t, xs.length ≤ 1048576 ∧ ∀ ys ∈ xs, ys.length ≤ 1048576) :
    Calls Try.prog 28 #[.agg #[.slice A n c]] w (Re w (.bool (cbB t))) := by
  obtain rfl := h.len
  go_enter Try.func28, Try.ntmps28
  go_wp2_with fail
  obtain ⟨W, hW⟩ : ∃ W, w.alloc (.cells #[.slice A t.length c] 27) = W := ⟨_, rfl⟩
  have hbW : Below w.heap.size w W := by rw [← hW]; exact (by repeat (first | assumption | exact Below.refl _ _ | apply below_drewN | apply Below.drew | apply Below.alloc | apply Below.setCell | omega | (focus (simp; done)) | (focus (simp; omega))))
  have hszW : w.heap.size < W.heap.size := by rw [← hW]; simp
  have hsW := hide (show W.heap.size = w.heap.size + 1 by rw [← hW]; simp)
  have q0 : W.cell? ⟨w.heap.size, 0, none⟩ = some (.slice A t.length c) := by rw [← hW]; exact (Blk.new _ _ _).cell 0
  rw [hW]
  clear hW
  have h' := (h.below hbW).more (Nat.le_of_lt hszW)
  obtain ⟨W1, hW1⟩ : ∃ W1, W.alloc (.cells #[.int .i64 t.length] 3) = W1 := ⟨_, rfl⟩
  have hb1 : Below W.heap.size W W1 := by rw [← hW1]; exact (Below.refl _ _).alloc (Nat.le_refl _) _
  have hp1 : w.heap.size + 1 < W1.heap.size := by rw [← hW1, ← hsW.out]; simp
  have hp0 : w.heap.size < W1.heap.size := by omega
  have p1 : W1.cell? ⟨w.heap.size + 1, 0, none⟩ = some (.int .i64 t.length) := by rw [← hW1, ← hsW.out]; exact (Blk.new _ _ _).cell 0
  have p0 := (hb1.cell (p := ⟨w.heap.size, 0, none⟩) hszW).trans q0
  have hs := (h'.below hb1).more hb1.size
  have hbw := hbW.trans (hb1.mono (Nat.le_of_lt hszW))
  rw [hW1]
  clear hW1 h' q0 hb1 hsW
  go_loopw [12] (fun i wr => ∃ k : Nat, k ≤ t.length ∧ i = .int .i64 k ∧ Hid (∀ (j : Nat) m, j < k → t[j]? = some m → MatOk t.length m) ∧ Below W1.heap.size W1 wr) (fun i _ => t.length - (intOf i).toNat)
  case atStart => exact ⟨0, by omega, rfl, hide fun j m hj => absurd hj (by omega), Below.refl _ _⟩
  case round =>
    obtain ⟨k, hk, rfl, HP, hBe⟩ := hrel
    have e1 := (hBe.cell (p := ⟨w.heap.size + 1, 0, none⟩) hp1).trans p1
    by_cases hlt : k < t.length
    · obtain ⟨m, hm⟩ := get_at hlt
      obtain ⟨b, off, rfl, hb⟩ := RdL.addr hs (by omega)
      obtain ⟨A1, n1, c1, e2, hs1⟩ := hs.row hm
      obtain rfl := hs1.len
      have e3 := (hBe.cell (p := ⟨b, off + k, none⟩) hb).trans e2
      have hrm := hr m (get_mem hm)
      have HM := hide hm
      have hs2 := (hs1.below hBe).more hBe.size
      by_cases hl : m.length = t.length
      · have hl' : ((m.length : Int) != (t.length : Int)) = false := by simp [hl]
        have HL := hide hl
        clear hm hl e2
        have hcall := fun wr' (hw : Below wr.heap.size wr wr') => cube_contains wr wr' A1 m.length c1 m (badB t.length) (w.heap.size + 1) hs2 hrm.1 hw (fun k' x A' n' c' hx hsx wd hwd => isCube1_any wd A' n' c' (w.heap.size + 1) t.length x ((hsx.below hwd).more hwd.size) ((hwd.cell (p := ⟨w.heap.size + 1, 0, none⟩) (Nat.lt_of_lt_of_le hp1 hBe.size)).trans e1) (by rw [← hsx.len]; exact hrm.2 x (get_mem hx)))
        obtain ⟨r, er⟩ : ∃ r, m.any (badB t.length) = r := ⟨_, rfl⟩
        rw [er] at hcall
        cases r with
        | true =>
          have hE := hide (cbB_f (t := t) fun hc => by
            obtain ⟨x, hx, hbx⟩ := List.any_eq_true.1 er
            exact badB_no hbx ((hc.row m (get_mem HM.out)).2 x hx))
          have HC := hide hcall
          clear er hcall
          go_wp2_with fail
          refine (HC.out _ (Below.refl _ _)).mono ?_
          rintro e w2 ⟨rfl, hb2⟩
          go_wp2_with fail
          go_ret
          exact ⟨by rw [hE.out]; rfl, hbw.trans ((hBe.trans (hb2.mono hBe.size)).mono (Nat.le_of_lt hp0))⟩
        | false =>
          have hE := hide (show MatOk t.length m from ⟨HL.out, fun x hx => badB_ok (by
            cases hb : badB t.length x with
            | false => rfl
            | true => rw [List.any_eq_true.2 ⟨x, hx, hb⟩] at er; cases er)⟩)
          have HC := hide hcall
          clear er hcall
          go_wp2_with fail
          refine (HC.out _ (Below.refl _ _)).mono ?_
          rintro e w2 ⟨rfl, hb2⟩
          go_wp2_with fail
          go_roundw
          case rel => exact ⟨k + 1, by omega, by go_num, hide fun j r' hj hr' => (by rcases Nat.lt_succ_iff_lt_or_eq.1 hj with h | rfl; exact HP.out j r' h hr'; rw [HM.out] at hr'; injection hr' with hr'; rw [← hr']; exact hE.out), hBe.trans (hb2.mono hBe.size)⟩
          case measure => simp [intOf] <;> omega
      · have hE := hide (not_cb_row hm hl)
        have hl' : ((m.length : Int) != (t.length : Int)) = true := by simp; omega
        clear hm hl e2
        go_wp2_with fail
        go_ret
        exact ⟨by rw [hE.out]; rfl, hbw.trans (hBe.mono (Nat.le_of_lt hp0))⟩
    · obtain rfl : k = t.length := by omega
      have hE := cb_iff (t := t) (all_get fun j m hj => HP.out j m (get_lt hj) hj)
      by_cases h1 : 1 ≤ t.length
      · by_cases h2 : t.length ≤ 16
        · have h1' : (1 : Int) ≤ t.length := by omega
          have h2' : (t.length : Int) ≤ 16 := by omega
          have hE' := hide (show cbB t = true by rw [hE]; simp [h1, h2])
          clear hE
          go_wp2_with fail
          go_ret
          exact ⟨by rw [hE'.out]; rfl, hbw.trans (hBe.mono (Nat.le_of_lt hp0))⟩
        · have h1' : (1 : Int) ≤ t.length := by omega
          have h2' : ¬ (t.length : Int) ≤ 16 := by omega
          have hE' := hide (show cbB t = false by rw [hE]; simp [h2])
          clear hE
          go_wp2_with fail
          go_ret
          exact ⟨by rw [hE'.out]; rfl, hbw.trans (hBe.mono (Nat.le_of_lt hp0))⟩
      · have h1' : ¬ (1 : Int) ≤ t.length := by omega
        have hE' := hide (show cbB t = false by rw [hE]; simp [h1])
        clear hE
        go_wp2_with fail
        go_ret
        exact ⟨by rw [hE'.out]; rfl, hbw.trans (hBe.mono (Nat.le_of_lt hp0))⟩
end Go.Proofs.Ytljnalobedkohaa
