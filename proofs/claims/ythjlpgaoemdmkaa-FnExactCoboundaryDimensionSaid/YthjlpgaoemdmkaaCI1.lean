
/- The walks of isModulus, isGrid, isCochain of the program. -/
import Derived.Test.YthjlpgaoemdmkaaCC
namespace Go.Proofs.Ythjlpgaoemdmkaa
open Go Go.RowKit Grp
set_option linter.unusedSimpArgs false
set_option linter.unusedVariables false
set_option maxRecDepth 100000

theorem isModulus_v (b : Bool) (w : World) (m : Int) (h : inB m 1 1000 = b) : Calls Try.prog 108 #[.int .i64 m] w (Qt w (.bool b)) := by
  go_enter Try.func108, Try.ntmps108
  go_wp2_with fail
  refine (within_v b _ _ _ _ h).mono ?_
  rintro e w' ⟨rfl, m, rfl⟩
  go_wp2
  go_ret
  exact Qt.d1 rfl
def badM (n : Nat) (M : Int) (r : List Int) : Bool := !(decide (r.length = n) && allIn 0 (M - 1) r)
theorem badM_ok {n : Nat} {M : Int} {r : List Int} (h : badM n M r = false) : RowM n M r := by
  simp only [badM, Bool.not_eq_false', Bool.and_eq_true, decide_eq_true_eq] at h
  refine ⟨h.1, fun x hx => ?_⟩
  have := List.all_eq_true.1 h.2 x hx
  simpa [inB] using this
theorem badM_no {n : Nat} {M : Int} {r : List Int} (h : badM n M r = true) : ¬ RowM n M r := by
  intro hr
  simp only [badM, Bool.not_eq_true', Bool.and_eq_false_iff, decide_eq_false_iff_not] at h
  rcases h with h | h
  · exact h hr.1
  · have : allIn 0 (M - 1) r = true := List.all_eq_true.2 fun x hx => by have := hr.2 x hx; simp only [inB, decide_eq_true_eq]; exact this
    rw [this] at h; cases h
def gridB (n : Nat) (M : Int) (a : List (List Int)) : Bool := decide (a.length = n) && !(a.any (badM n M))
theorem gridB_iff {n : Nat} {M : Int} {a : List (List Int)} : gridB n M a = true ↔ MatM n M a := by
  unfold gridB
  rw [Bool.and_eq_true, decide_eq_true_eq, Bool.not_eq_true']
  constructor
  · rintro ⟨h1, h2⟩
    refine ⟨h1, fun r hr => badM_ok ?_⟩
    cases hb : badM n M r with
    | false => rfl
    | true => rw [List.any_eq_true.2 ⟨r, hr, hb⟩] at h2; cases h2
  · rintro ⟨h1, h2⟩
    refine ⟨h1, Bool.eq_false_iff.2 fun ha => ?_⟩
    obtain ⟨r, hr, hb⟩ := List.any_eq_true.1 ha
    exact badM_no hb (h2 r hr)
theorem isGrid1_any (w : World) (A : Option Addr) (k c p q n : Nat) (M : Int) (r : List Int) (h : Sl w w.heap.size A k c r) (hp : w.cell? ⟨p, 0, none⟩ = some (.int .i64 n)) (hq : w.cell? ⟨q, 0, none⟩ = some (.int .i64 M)) (hk : k ≤ 1048576) (m1 : 1 ≤ M) (m2 : M ≤ 1000) :
    Calls Try.prog 119 #[.slice A k c, .pointer (some ⟨p, 0, none⟩), .pointer (some ⟨q, 0, none⟩)] w (Re w (.bool (badM n M r))) := by
  obtain rfl := h.len
  have hwm : IntKind.i64.wrap (M - 1) = M - 1 := wr64 _ ⟨by omega, by omega⟩
  by_cases hl : r.length = n
  · have ha := allWithin_any w w.heap.size A r.length c r 0 (M - 1) h (Nat.le_refl _) hk
    obtain ⟨b, eb⟩ : ∃ b, allIn 0 (M - 1) r = b := ⟨_, rfl⟩
    rw [eb] at ha
    have hE := hide (show badM n M r = !b by simp [badM, hl, eb])
    have hlb : ((r.length : Int) != (n : Int)) = false := by simp [hl]
    have HA := hide ha
    clear eb hl ha
    cases b
    all_goals
      go_enter Try.func119, Try.ntmps119
      go_wp2_with fail
      refine HA.out.mono ?_
      rintro e w' ⟨rfl, hb⟩
      go_wp2_with fail
      go_ret
      exact ⟨by rw [hE.out]; rfl, hb⟩
  · have hE := hide (show badM n M r = true by simp [badM, hl])
    have hlb : ((r.length : Int) != (n : Int)) = true := by simp; omega
    clear hl
    go_enter Try.func119, Try.ntmps119
    go_wp2_with fail
    go_ret
    exact ⟨by rw [hE.out]; rfl, Below.refl _ _⟩
theorem grid_index (W w : World) (A : Option Addr) (n c : Nat) (xs : List (List Int)) (P : (List Int) → Bool) (p q : Nat) (hx : Sl2 W W.heap.size A n c xs) (hn : n ≤ 1048576) (hw : Below W.heap.size W w)
    (hcall : ∀ (k : Nat) x A' n' c', xs[k]? = some x → Sl W W.heap.size A' n' c' x → ∀ wd, Below W.heap.size W wd → Calls Try.prog 119 #[.slice A' n' c', .pointer (some ⟨p, 0, none⟩), .pointer (some ⟨q, 0, none⟩)] wd (Re wd (.bool (P x)))) :
    Calls Try.prog 106 #[.slice A n c, .func (.func 119) #[] #[.pointer (some ⟨p, 0, none⟩), .pointer (some ⟨q, 0, none⟩)]] w (fun e w' => ∃ r : Int, e = .returned (.int .i64 r) ∧ decide (0 ≤ r) = xs.any P ∧ Below W.heap.size W w') := by
  obtain rfl := hx.len
  have HC := hide hcall
  clear hcall
  go_enter Try.func106, Try.ntmps106
  go_wp2_with fail
  go_loopw [8] (fun i wr => ∃ k : Nat, k ≤ xs.length ∧ i = .int .i64 k ∧ Hid (∀ (j : Nat) x, j < k → xs[j]? = some x → P x = false) ∧ Below W.heap.size W wr) (fun i _ => xs.length - (intOf i).toNat)
  case atStart => exact ⟨0, by omega, rfl, hide fun j _ hj => absurd hj (by omega), hw⟩
  case round =>
    clear hw
    obtain ⟨k, hk, rfl, HP, hBe⟩ := hrel
    by_cases hlt : k < xs.length
    · obtain ⟨x, hxk⟩ := get_at hlt
      obtain ⟨b, off, rfl, hb⟩ := RdL.addr hx (by omega)
      obtain ⟨A', n', c', c0, hs⟩ := hx.row hxk
      have c1 := (hBe.cell (p := ⟨b, off + k, none⟩) hb).trans c0
      obtain rfl := hs.len
      have hcl := HC.out k x A' _ c' hxk hs
      have HX := hide hxk
      clear hxk c0 hs
      cases hv : P x with
      | true =>
        have hT := hide (show xs.any P = true from List.any_eq_true.2 ⟨_, get_mem HX.out, hv⟩)
        rw [hv] at hcl
        have HL := hide hcl
        clear hv hcl
        go_wp2_with fail
        clear c1
        refine (HL.out _ hBe).mono ?_
        rintro e w3 ⟨rfl, hb3⟩
        replace hBe := hBe.trans (hb3.mono hBe.size)
        clear hb3
        go_wp2_with fail
        go_ret
        exact ⟨k, rfl, by rw [hT.out]; simp, hBe⟩
      | false =>
        rw [hv] at hcl
        have HL := hide hcl
        have hv' := hide hv
        clear hv hcl
        go_wp2_with fail
        clear c1
        refine (HL.out _ hBe).mono ?_
        rintro e w3 ⟨rfl, hb3⟩
        replace hBe := hBe.trans (hb3.mono hBe.size)
        clear hb3
        go_wp2_with fail
        go_roundw
        case rel => exact ⟨k + 1, by omega, by go_num, hide fun j y hj hy => (by rcases Nat.lt_succ_iff_lt_or_eq.1 hj with h | rfl; exact HP.out j y h hy; rw [HX.out] at hy; injection hy with hy; rw [← hy]; exact hv'.out), hBe⟩
        case measure => simp [intOf] <;> omega
    · obtain rfl : k = xs.length := by omega
      have hT := hide (show xs.any P = false from by
        refine Bool.eq_false_iff.2 fun ha => ?_
        obtain ⟨x, hx, he⟩ := List.any_eq_true.1 ha
        obtain ⟨j, hj, rfl⟩ := List.getElem_of_mem hx
        rw [HP.out j _ hj (List.getElem?_eq_getElem hj)] at he
        cases he)
      go_wp2
      go_ret
      exact ⟨-1, rfl, by rw [hT.out]; rfl, hBe⟩
theorem grid_contains (W w : World) (A : Option Addr) (n c : Nat) (xs : List (List Int)) (P : (List Int) → Bool) (p q : Nat) (hx : Sl2 W W.heap.size A n c xs) (hn : n ≤ 1048576) (hw : Below W.heap.size W w)
    (hcall : ∀ (k : Nat) x A' n' c', xs[k]? = some x → Sl W W.heap.size A' n' c' x → ∀ wd, Below W.heap.size W wd → Calls Try.prog 119 #[.slice A' n' c', .pointer (some ⟨p, 0, none⟩), .pointer (some ⟨q, 0, none⟩)] wd (Re wd (.bool (P x)))) :
    Calls Try.prog 118 #[.slice A n c, .func (.func 119) #[] #[.pointer (some ⟨p, 0, none⟩), .pointer (some ⟨q, 0, none⟩)]] w (fun e w' => e = .returned (.bool (xs.any P)) ∧ Below W.heap.size W w') := by
  have HI := hide (grid_index W w A n c xs P p q hx hn hw hcall)
  clear hcall
  go_enter Try.func118, Try.ntmps118
  go_wp2_with fail
  refine HI.out.mono ?_
  rintro e w' ⟨r, rfl, hr, hb⟩
  have hR := hide hr
  clear hr
  go_wp2
  go_ret
  exact ⟨by rw [← hR.out]; rfl, hb⟩
theorem isGrid_any (w : World) (A : Option Addr) (k c n : Nat) (M : Int) (a : List (List Int)) (h : Sl2 w w.heap.size A k c a) (hk : k ≤ 1048576) (hr : ∀ r ∈ a, r.length ≤ 1048576) (m1 : 1 ≤ M) (m2 : M ≤ 1000) :
    Calls Try.prog 111 #[.slice A k c, .int .i64 n, .int .i64 M] w (Re w (.bool (gridB n M a))) := by
  obtain rfl := h.len
  by_cases hl : a.length = n
  · have hlb : ((a.length : Int) == (n : Int)) = true := by simp [hl]
    obtain ⟨b, eb⟩ : ∃ b, a.any (badM n M) = b := ⟨_, rfl⟩
    have hE := hide (show gridB n M a = !b by simp [gridB, hl, eb])
    have EB := hide eb
    clear eb hl
    cases b
    all_goals
      go_enter Try.func111, Try.ntmps111
      go_wp2_with fail
      obtain ⟨W, hW⟩ : ∃ W, (w.alloc (.cells #[.int .i64 n] 3)).alloc (.cells #[.int .i64 M] 2) = W := ⟨_, rfl⟩
      have hb0 : Below w.heap.size w W := by rw [← hW]; exact (by repeat (first | assumption | exact Below.refl _ _ | apply below_drewN | apply Below.drew | apply Below.alloc | apply Below.setCell | omega | (focus (simp; done)) | (focus (simp; omega))))
      have hp1 : W.cell? ⟨w.heap.size, 0, none⟩ = some (.int .i64 n) := by rw [← hW]; exact ((Blk.new w _ _).alloc _).cell 0
      have hp2 : W.cell? ⟨w.heap.size + 1, 0, none⟩ = some (.int .i64 M) := by rw [← hW]; exact (Blk.new' (w.alloc _) _ _ (w.heap.size + 1) (by simp)).cell 0
      have hz : w.heap.size + 1 < W.heap.size := by rw [← hW]; simp
      rw [hW]
      clear hW
      refine (grid_contains W W A a.length c a (badM n M) w.heap.size (w.heap.size + 1) ((h.below hb0).more (by omega)) hk (Below.refl _ _) (fun k x A' n' c' hx hsx wd hwd => isGrid1_any wd A' n' c' w.heap.size (w.heap.size + 1) n M x ((hsx.below hwd).more hwd.size)
        ((hwd.cell (p := ⟨w.heap.size, 0, none⟩) (by simp; omega)).trans hp1) ((hwd.cell (p := ⟨w.heap.size + 1, 0, none⟩) hz).trans hp2) (by rw [← hsx.len]; exact hr x (get_mem hx)) m1 m2)).mono ?_
      rw [EB.out]
      rintro e w' ⟨rfl, hb⟩
      go_wp2_with fail
      go_ret
      exact ⟨by rw [hE.out]; rfl, hb0.trans (hb.mono (by omega))⟩
  · have hE := hide (show gridB n M a = false by simp [gridB, hl])
    have hlb : ((a.length : Int) == (n : Int)) = false := by simp; omega
    clear hl
    go_enter Try.func111, Try.ntmps111
    go_wp2_with fail
    go_ret
    exact ⟨by rw [hE.out]; rfl, (by repeat (first | assumption | exact Below.refl _ _ | apply below_drewN | apply Below.drew | apply Below.alloc | apply Below.setCell | omega | (focus (simp; done)) | (focus (simp; omega))))⟩
theorem isCochain1_any (w : World) (A : Option Addr) (k c p q n : Nat) (M : Int) (a : List (List Int)) (h : Sl2 w w.heap.size A k c a) (hp : w.cell? ⟨p, 0, none⟩ = some (.int .i64 n)) (hq : w.cell? ⟨q, 1, none⟩ = some (.int .i64 M)) (hk : k ≤ 1048576) (hr : ∀ r ∈ a, r.length ≤ 1048576) (m1 : 1 ≤ M) (m2 : M ≤ 1000) :
    Calls Try.prog 110 #[.slice A k c, .pointer (some ⟨p, 0, none⟩), .pointer (some ⟨q, 0, none⟩)] w (Re w (.bool (!(gridB n M a)))) := by
  have hg := isGrid_any w A k c n M a h hk hr m1 m2
  obtain ⟨b, eb⟩ : ∃ b, gridB n M a = b := ⟨_, rfl⟩
  rw [eb] at hg ⊢
  have HG := hide hg
  clear eb hg
  go_enter Try.func110, Try.ntmps110
  go_wp2_with fail
  refine HG.out.mono ?_
  rintro e w' ⟨rfl, hb⟩
  go_wp2_with fail
  go_ret
  exact ⟨rfl, hb⟩
theorem coch_index (W w : World) (A : Option Addr) (n c : Nat) (xs : List (List (List Int))) (P : (List (List Int)) → Bool) (p q : Nat) (hx : Sl3 W W.heap.size A n c xs) (hn : n ≤ 1048576) (hw : Below W.heap.size W w)
    (hcall : ∀ (k : Nat) x A' n' c', xs[k]? = some x → Sl2 W W.heap.size A' n' c' x → ∀ wd, Below W.heap.size W wd → Calls Try.prog 110 #[.slice A' n' c', .pointer (some ⟨p, 0, none⟩), .pointer (some ⟨q, 0, none⟩)] wd (Re wd (.bool (P x)))) :
    Calls Try.prog 117 #[.slice A n c, .func (.func 110) #[] #[.pointer (some ⟨p, 0, none⟩), .pointer (some ⟨q, 0, none⟩)]] w (fun e w' => ∃ r : Int, e = .returned (.int .i64 r) ∧ decide (0 ≤ r) = xs.any P ∧ Below W.heap.size W w') := by
  obtain rfl := hx.len
  have HC := hide hcall
  clear hcall
  go_enter Try.func117, Try.ntmps117
  go_wp2_with fail
  go_loopw [8] (fun i wr => ∃ k : Nat, k ≤ xs.length ∧ i = .int .i64 k ∧ Hid (∀ (j : Nat) x, j < k → xs[j]? = some x → P x = false) ∧ Below W.heap.size W wr) (fun i _ => xs.length - (intOf i).toNat)
  case atStart => exact ⟨0, by omega, rfl, hide fun j _ hj => absurd hj (by omega), hw⟩
  case round =>
    clear hw
    obtain ⟨k, hk, rfl, HP, hBe⟩ := hrel
    by_cases hlt : k < xs.length
    · obtain ⟨x, hxk⟩ := get_at hlt
      obtain ⟨b, off, rfl, hb⟩ := RdL.addr hx (by omega)
      obtain ⟨A', n', c', c0, hs⟩ := hx.row hxk
      have c1 := (hBe.cell (p := ⟨b, off + k, none⟩) hb).trans c0
      obtain rfl := hs.len
      have hcl := HC.out k x A' _ c' hxk hs
      have HX := hide hxk
      clear hxk c0 hs
      cases hv : P x with
      | true =>
        have hT := hide (show xs.any P = true from List.any_eq_true.2 ⟨_, get_mem HX.out, hv⟩)
        rw [hv] at hcl
        have HL := hide hcl
        clear hv hcl
        go_wp2_with fail
        clear c1
        refine (HL.out _ hBe).mono ?_
        rintro e w3 ⟨rfl, hb3⟩
        replace hBe := hBe.trans (hb3.mono hBe.size)
        clear hb3
        go_wp2_with fail
        go_ret
        exact ⟨k, rfl, by rw [hT.out]; simp, hBe⟩
      | false =>
        rw [hv] at hcl
        have HL := hide hcl
        have hv' := hide hv
        clear hv hcl
        go_wp2_with fail
        clear c1
        refine (HL.out _ hBe).mono ?_
        rintro e w3 ⟨rfl, hb3⟩
        replace hBe := hBe.trans (hb3.mono hBe.size)
        clear hb3
        go_wp2_with fail
        go_roundw
        case rel => exact ⟨k + 1, by omega, by go_num, hide fun j y hj hy => (by rcases Nat.lt_succ_iff_lt_or_eq.1 hj with h | rfl; exact HP.out j y h hy; rw [HX.out] at hy; injection hy with hy; rw [← hy]; exact hv'.out), hBe⟩
        case measure => simp [intOf] <;> omega
    · obtain rfl : k = xs.length := by omega
      have hT := hide (show xs.any P = false from by
        refine Bool.eq_false_iff.2 fun ha => ?_
        obtain ⟨x, hx, he⟩ := List.any_eq_true.1 ha
        obtain ⟨j, hj, rfl⟩ := List.getElem_of_mem hx
        rw [HP.out j _ hj (List.getElem?_eq_getElem hj)] at he
        cases he)
      go_wp2
      go_ret
      exact ⟨-1, rfl, by rw [hT.out]; rfl, hBe⟩
theorem coch_contains (W w : World) (A : Option Addr) (n c : Nat) (xs : List (List (List Int))) (P : (List (List Int)) → Bool) (p q : Nat) (hx : Sl3 W W.heap.size A n c xs) (hn : n ≤ 1048576) (hw : Below W.heap.size W w)
    (hcall : ∀ (k : Nat) x A' n' c', xs[k]? = some x → Sl2 W W.heap.size A' n' c' x → ∀ wd, Below W.heap.size W wd → Calls Try.prog 110 #[.slice A' n' c', .pointer (some ⟨p, 0, none⟩), .pointer (some ⟨q, 0, none⟩)] wd (Re wd (.bool (P x)))) :
    Calls Try.prog 109 #[.slice A n c, .func (.func 110) #[] #[.pointer (some ⟨p, 0, none⟩), .pointer (some ⟨q, 0, none⟩)]] w (fun e w' => e = .returned (.bool (xs.any P)) ∧ Below W.heap.size W w') := by
  have HI := hide (coch_index W w A n c xs P p q hx hn hw hcall)
  clear hcall
  go_enter Try.func109, Try.ntmps109
  go_wp2_with fail
  refine HI.out.mono ?_
  rintro e w' ⟨r, rfl, hr, hb⟩
  have hR := hide hr
  clear hr
  go_wp2
  go_ret
  exact ⟨by rw [← hR.out]; rfl, hb⟩
theorem gsz_rng (os : List Int) : 0 ≤ gsz os ∧ gsz os ≤ 17 := by
  by_cases h : OrdH os
  · rw [gsz_ok h]; have := prodL_pos h.2; omega
  · rw [gsz_no h]; omega
theorem gsz_in_t {os : List Int} (h : OrdH os ∧ prodL os ≤ 8) : inB (gsz os) 1 8 = true := by
  have := prodL_pos h.1.2
  rw [gsz_ok h.1, inB_t (by omega) (by have := h.2; omega)]
theorem gsz_in_f {os : List Int} (h : ¬ (OrdH os ∧ prodL os ≤ 8)) : inB (gsz os) 1 8 = false := by
  by_cases ho : OrdH os
  · rw [gsz_ok ho]
    have h8 : ¬ prodL os ≤ 8 := fun hp => h ⟨ho, hp⟩
    rw [inB_f2 (by omega)]
  · rw [gsz_no ho, inB_f1 (by omega)]
set_option maxHeartbeats 4000000 in
theorem isCochain_any (w : World) (A : Option Addr) (n c : Nat) (os : List Int) (M : Int) (D : Option Addr) (e f : Nat) (t : Tb) (h : Sl w w.heap.size A n c os) (h' : Sl3 w w.heap.size D e f t) (hm : i64ok M) (hs : os.length ≤ 1048576 ∧ t.length ≤ 1048576 ∧ ∀ xs ∈ t, xs.length ≤ 1048576 ∧ ∀ ys ∈ xs, ys.length ≤ 1048576) :
    Calls Try.prog 82 #[.agg #[.slice A n c, .int .i64 M, .slice D e f]] w (Re w (.bool (chB os M t))) := by
  obtain rfl := h.len
  obtain rfl := h'.len
  have hgs := fun W B (hW : Sl W B A os.length c os) => groupSize_any W B A os.length c os hW hs.1
  have hgr := gsz_rng os
  have hgt := gsz_in_t (os := os)
  have hgf := gsz_in_f (os := os)
  obtain ⟨g, hg⟩ : ∃ g, gsz os = g := ⟨_, rfl⟩
  rw [hg] at hgs hgr hgt hgf
  have HG := hide hgs
  have HGE := hide hg
  clear hgs hg
  by_cases h8 : OrdH os ∧ prodL os ≤ 8
  rotate_left
  · have hE := hide (chB_f (os := os) (m := M) (t := t) fun hc => h8 ⟨hc.ord, hc.p8⟩)
    have hgi := hgf h8
    clear h8 hgt hgf
    go_enter Try.func82, Try.ntmps82
    go_wp2_with fail
    obtain ⟨W, hW⟩ : ∃ W, w.alloc (.cells #[.slice A os.length c, .int .i64 M, .slice D t.length f] 25) = W := ⟨_, rfl⟩
    have hbW : Below w.heap.size w W := by rw [← hW]; exact (by repeat (first | assumption | exact Below.refl _ _ | apply below_drewN | apply Below.drew | apply Below.alloc | apply Below.setCell | omega | (focus (simp; done)) | (focus (simp; omega))))
    have hszW : w.heap.size < W.heap.size := by rw [← hW]; simp
    have hsW := hide (show W.heap.size = w.heap.size + 1 by rw [← hW]; simp)
    have q0 : W.cell? ⟨w.heap.size, 0, none⟩ = some (.slice A os.length c) := by rw [← hW]; exact (Blk.new _ _ _).cell 0
    have q1 : W.cell? ⟨w.heap.size, 1, none⟩ = some (.int .i64 M) := by rw [← hW]; exact (Blk.new _ _ _).cell 1
    have q2 : W.cell? ⟨w.heap.size, 2, none⟩ = some (.slice D t.length f) := by rw [← hW]; exact (Blk.new _ _ _).cell 2
    rw [hW]
    clear hW
    refine (HG.out _ _ (h.below hbW)).mono ?_
    rintro e' w1 ⟨rfl, d, rfl⟩
    obtain ⟨W0, hW0⟩ : ∃ W0, W.drewN d = W0 := ⟨_, rfl⟩
    have hb0 : Below W.heap.size W W0 := by rw [← hW0]; exact below_drewN (Below.refl _ _) _
    rw [hW0]
    clear hW0 hsW
    go_wp2_with fail
    obtain ⟨W1, hW1⟩ : ∃ W1, W0.alloc (.cells #[.int .i64 g] 2) = W1 := ⟨_, rfl⟩
    obtain ⟨S1, hS1⟩ : ∃ S1, W0.heap.size = S1 := ⟨_, rfl⟩
    have hb1 : Below W.heap.size W W1 := by rw [← hW1]; exact hb0.alloc hb0.size _
    have hp1 : S1 < W1.heap.size := by rw [← hW1, ← hS1]; simp
    have p3 : W1.cell? ⟨S1, 0, none⟩ = some (.int .i64 g) := by rw [← hW1, ← hS1]; exact (Blk.new W0 _ _).cell 0
    have p0 := (hb1.cell (p := ⟨w.heap.size, 0, none⟩) hszW).trans q0
    have p1 := (hb1.cell (p := ⟨w.heap.size, 1, none⟩) hszW).trans q1
    have p2 := (hb1.cell (p := ⟨w.heap.size, 2, none⟩) hszW).trans q2
    have hbw := hbW.trans (hb1.mono (Nat.le_of_lt hszW))
    have hwl : w.heap.size < W1.heap.size := Nat.lt_of_lt_of_le hszW hb1.size
    rw [hW1, hS1]
    clear hW1 hS1 hb0 hb1 q0 q1 q2
    refine (within_v false g 1 8 _ hgi).mono ?_
    rintro e w' ⟨rfl, m, rfl⟩
    go_wp2_with fail
    go_ret
    exact ⟨by rw [hE.out]; rfl, below_drewN hbw _⟩
  have hgi := hgt h8
  clear hgt hgf
  have hgp : g = prodL os := by have := HGE.out; rw [gsz_ok h8.1] at this; omega
  have HGP := hide hgp
  have H8 := hide h8
  have hg1 : 1 ≤ g := by rw [hgp]; exact prodL_pos h8.1.2
  have hg8 : g ≤ 8 := by rw [hgp]; exact h8.2
  clear hgp h8
  by_cases hm2 : 1 ≤ M ∧ M ≤ 1000
  rotate_left
  · have hE := hide (chB_f (os := os) (m := M) (t := t) fun hc => hm2 ⟨hc.m1, hc.m2⟩)
    have hmi : inB M 1 1000 = false := inB_f hm2
    clear hm2
    go_enter Try.func82, Try.ntmps82
    go_wp2_with fail
    obtain ⟨W, hW⟩ : ∃ W, w.alloc (.cells #[.slice A os.length c, .int .i64 M, .slice D t.length f] 25) = W := ⟨_, rfl⟩
    have hbW : Below w.heap.size w W := by rw [← hW]; exact (by repeat (first | assumption | exact Below.refl _ _ | apply below_drewN | apply Below.drew | apply Below.alloc | apply Below.setCell | omega | (focus (simp; done)) | (focus (simp; omega))))
    have hszW : w.heap.size < W.heap.size := by rw [← hW]; simp
    have hsW := hide (show W.heap.size = w.heap.size + 1 by rw [← hW]; simp)
    have q0 : W.cell? ⟨w.heap.size, 0, none⟩ = some (.slice A os.length c) := by rw [← hW]; exact (Blk.new _ _ _).cell 0
    have q1 : W.cell? ⟨w.heap.size, 1, none⟩ = some (.int .i64 M) := by rw [← hW]; exact (Blk.new _ _ _).cell 1
    have q2 : W.cell? ⟨w.heap.size, 2, none⟩ = some (.slice D t.length f) := by rw [← hW]; exact (Blk.new _ _ _).cell 2
    rw [hW]
    clear hW
    refine (HG.out _ _ (h.below hbW)).mono ?_
    rintro e' w1 ⟨rfl, d, rfl⟩
    obtain ⟨W0, hW0⟩ : ∃ W0, W.drewN d = W0 := ⟨_, rfl⟩
    have hb0 : Below W.heap.size W W0 := by rw [← hW0]; exact below_drewN (Below.refl _ _) _
    rw [hW0]
    clear hW0 hsW
    go_wp2_with fail
    obtain ⟨W1, hW1⟩ : ∃ W1, W0.alloc (.cells #[.int .i64 g] 2) = W1 := ⟨_, rfl⟩
    obtain ⟨S1, hS1⟩ : ∃ S1, W0.heap.size = S1 := ⟨_, rfl⟩
    have hb1 : Below W.heap.size W W1 := by rw [← hW1]; exact hb0.alloc hb0.size _
    have hp1 : S1 < W1.heap.size := by rw [← hW1, ← hS1]; simp
    have p3 : W1.cell? ⟨S1, 0, none⟩ = some (.int .i64 g) := by rw [← hW1, ← hS1]; exact (Blk.new W0 _ _).cell 0
    have p0 := (hb1.cell (p := ⟨w.heap.size, 0, none⟩) hszW).trans q0
    have p1 := (hb1.cell (p := ⟨w.heap.size, 1, none⟩) hszW).trans q1
    have p2 := (hb1.cell (p := ⟨w.heap.size, 2, none⟩) hszW).trans q2
    have hbw := hbW.trans (hb1.mono (Nat.le_of_lt hszW))
    have hwl : w.heap.size < W1.heap.size := Nat.lt_of_lt_of_le hszW hb1.size
    rw [hW1, hS1]
    clear hW1 hS1 hb0 hb1 q0 q1 q2
    refine (within_v true g 1 8 _ hgi).mono ?_
    rintro e w' ⟨rfl, m, rfl⟩
    go_wp2_with fail
    refine (isModulus_v false _ _ hmi).mono ?_
    rintro e w' ⟨rfl, m, rfl⟩
    go_wp2_with fail
    go_ret
    exact ⟨by rw [hE.out]; rfl, below_drewN hbw _⟩
  obtain ⟨m1, m2⟩ := hm2
  have hmi : inB M 1 1000 = true := inB_t m1 m2
  by_cases hl : (t.length : Int) = g
  rotate_left
  · have hE := hide (chB_f (os := os) (m := M) (t := t) fun hc => hl (by rw [HGP.out]; exact hc.len))
    have hlb : ((t.length : Int) != g) = true := by simpa using hl
    clear hl
    go_enter Try.func82, Try.ntmps82
    go_wp2_with fail
    obtain ⟨W, hW⟩ : ∃ W, w.alloc (.cells #[.slice A os.length c, .int .i64 M, .slice D t.length f] 25) = W := ⟨_, rfl⟩
    have hbW : Below w.heap.size w W := by rw [← hW]; exact (by repeat (first | assumption | exact Below.refl _ _ | apply below_drewN | apply Below.drew | apply Below.alloc | apply Below.setCell | omega | (focus (simp; done)) | (focus (simp; omega))))
    have hszW : w.heap.size < W.heap.size := by rw [← hW]; simp
    have hsW := hide (show W.heap.size = w.heap.size + 1 by rw [← hW]; simp)
    have q0 : W.cell? ⟨w.heap.size, 0, none⟩ = some (.slice A os.length c) := by rw [← hW]; exact (Blk.new _ _ _).cell 0
    have q1 : W.cell? ⟨w.heap.size, 1, none⟩ = some (.int .i64 M) := by rw [← hW]; exact (Blk.new _ _ _).cell 1
    have q2 : W.cell? ⟨w.heap.size, 2, none⟩ = some (.slice D t.length f) := by rw [← hW]; exact (Blk.new _ _ _).cell 2
    rw [hW]
    clear hW
    refine (HG.out _ _ (h.below hbW)).mono ?_
    rintro e' w1 ⟨rfl, d, rfl⟩
    obtain ⟨W0, hW0⟩ : ∃ W0, W.drewN d = W0 := ⟨_, rfl⟩
    have hb0 : Below W.heap.size W W0 := by rw [← hW0]; exact below_drewN (Below.refl _ _) _
    rw [hW0]
    clear hW0 hsW
    go_wp2_with fail
    obtain ⟨W1, hW1⟩ : ∃ W1, W0.alloc (.cells #[.int .i64 g] 2) = W1 := ⟨_, rfl⟩
    obtain ⟨S1, hS1⟩ : ∃ S1, W0.heap.size = S1 := ⟨_, rfl⟩
    have hb1 : Below W.heap.size W W1 := by rw [← hW1]; exact hb0.alloc hb0.size _
    have hp1 : S1 < W1.heap.size := by rw [← hW1, ← hS1]; simp
    have p3 : W1.cell? ⟨S1, 0, none⟩ = some (.int .i64 g) := by rw [← hW1, ← hS1]; exact (Blk.new W0 _ _).cell 0
    have p0 := (hb1.cell (p := ⟨w.heap.size, 0, none⟩) hszW).trans q0
    have p1 := (hb1.cell (p := ⟨w.heap.size, 1, none⟩) hszW).trans q1
    have p2 := (hb1.cell (p := ⟨w.heap.size, 2, none⟩) hszW).trans q2
    have hbw := hbW.trans (hb1.mono (Nat.le_of_lt hszW))
    have hwl : w.heap.size < W1.heap.size := Nat.lt_of_lt_of_le hszW hb1.size
    rw [hW1, hS1]
    clear hW1 hS1 hb0 hb1 q0 q1 q2
    refine (within_v true g 1 8 _ hgi).mono ?_
    rintro e w' ⟨rfl, m, rfl⟩
    go_wp2_with fail
    refine (isModulus_v true _ _ hmi).mono ?_
    rintro e w' ⟨rfl, m, rfl⟩
    go_wp2_with fail
    go_ret
    exact ⟨by rw [hE.out]; rfl, below_drewN hbw _⟩
  subst hl
  have hE : chB os M t = !(t.any fun a => !(gridB t.length M a)) := by
    cases ha : t.any fun a => !(gridB t.length M a) with
    | true =>
      obtain ⟨a, hma, hb⟩ := List.any_eq_true.1 ha
      refine chB_f fun hc => ?_
      rw [gridB_iff.2 (hc.mat a hma)] at hb
      cases hb
    | false =>
      refine chB_t ⟨H8.out.1, H8.out.2, m1, m2, HGP.out, fun a hma => gridB_iff.1 ?_⟩
      cases hb : gridB t.length M a with
      | true => rfl
      | false => rw [List.any_eq_true.2 ⟨a, hma, by simp [hb]⟩] at ha; cases ha
  obtain ⟨r, hr⟩ : ∃ r, (t.any fun a => !(gridB t.length M a)) = r := ⟨_, rfl⟩
  rw [hr] at hE
  have HE := hide hE
  have HR := hide hr
  clear hE hr
  go_enter Try.func82, Try.ntmps82
  go_wp2_with fail
  obtain ⟨W, hW⟩ : ∃ W, w.alloc (.cells #[.slice A os.length c, .int .i64 M, .slice D t.length f] 25) = W := ⟨_, rfl⟩
  have hbW : Below w.heap.size w W := by rw [← hW]; exact (by repeat (first | assumption | exact Below.refl _ _ | apply below_drewN | apply Below.drew | apply Below.alloc | apply Below.setCell | omega | (focus (simp; done)) | (focus (simp; omega))))
  have hszW : w.heap.size < W.heap.size := by rw [← hW]; simp
  have hsW := hide (show W.heap.size = w.heap.size + 1 by rw [← hW]; simp)
  have q0 : W.cell? ⟨w.heap.size, 0, none⟩ = some (.slice A os.length c) := by rw [← hW]; exact (Blk.new _ _ _).cell 0
  have q1 : W.cell? ⟨w.heap.size, 1, none⟩ = some (.int .i64 M) := by rw [← hW]; exact (Blk.new _ _ _).cell 1
  have q2 : W.cell? ⟨w.heap.size, 2, none⟩ = some (.slice D t.length f) := by rw [← hW]; exact (Blk.new _ _ _).cell 2
  rw [hW]
  clear hW
  refine (HG.out _ _ (h.below hbW)).mono ?_
  rintro e' w1 ⟨rfl, d, rfl⟩
  obtain ⟨W0, hW0⟩ : ∃ W0, W.drewN d = W0 := ⟨_, rfl⟩
  have hb0 : Below W.heap.size W W0 := by rw [← hW0]; exact below_drewN (Below.refl _ _) _
  rw [hW0]
  clear hW0 hsW
  go_wp2_with fail
  obtain ⟨W1, hW1⟩ : ∃ W1, W0.alloc (.cells #[.int .i64 (t.length : Int)] 2) = W1 := ⟨_, rfl⟩
  obtain ⟨S1, hS1⟩ : ∃ S1, W0.heap.size = S1 := ⟨_, rfl⟩
  have hb1 : Below W.heap.size W W1 := by rw [← hW1]; exact hb0.alloc hb0.size _
  have hp1 : S1 < W1.heap.size := by rw [← hW1, ← hS1]; simp
  have p3 : W1.cell? ⟨S1, 0, none⟩ = some (.int .i64 (t.length : Int)) := by rw [← hW1, ← hS1]; exact (Blk.new W0 _ _).cell 0
  have p0 := (hb1.cell (p := ⟨w.heap.size, 0, none⟩) hszW).trans q0
  have p1 := (hb1.cell (p := ⟨w.heap.size, 1, none⟩) hszW).trans q1
  have p2 := (hb1.cell (p := ⟨w.heap.size, 2, none⟩) hszW).trans q2
  have hbw := hbW.trans (hb1.mono (Nat.le_of_lt hszW))
  have hwl : w.heap.size < W1.heap.size := Nat.lt_of_lt_of_le hszW hb1.size
  rw [hW1, hS1]
  clear hW1 hS1 hb0 hb1 q0 q1 q2
  refine (within_v true (t.length : Int) 1 8 _ hgi).mono ?_
  rintro e w' ⟨rfl, m, rfl⟩
  go_wp2_with fail
  refine (isModulus_v true _ _ hmi).mono ?_
  rintro e w' ⟨rfl, m, rfl⟩
  go_wp2_with fail
  have hcc := fun wd (hw : Below W1.heap.size W1 wd) => coch_contains W1 wd D t.length f t (fun a => !(gridB t.length M a)) S1 w.heap.size ((h'.below hbw).more hbw.size) hs.2.1 hw (fun k x A' n' c' hx hsx wd' hwd => isCochain1_any wd' A' n' c' S1 w.heap.size t.length M x ((hsx.below hwd).more hwd.size)
    ((hwd.cell (p := ⟨S1, 0, none⟩) hp1).trans p3) ((hwd.cell (p := ⟨w.heap.size, 1, none⟩) hwl).trans p1) (by rw [← hsx.len]; exact (hs.2.2 x (get_mem hx)).1) (hs.2.2 x (get_mem hx)).2 m1 m2)
  refine (hcc _ (by repeat (first | exact Below.refl _ _ | apply below_drewN))).mono ?_
  rw [HR.out]
  rintro e' w2 ⟨rfl, hb2⟩
  go_wp2_with fail
  go_ret
  exact ⟨by rw [HE.out]; rfl, hbw.trans (hb2.mono (Nat.le_of_lt hwl))⟩
end Go.Proofs.Ythjlpgaoemdmkaa
