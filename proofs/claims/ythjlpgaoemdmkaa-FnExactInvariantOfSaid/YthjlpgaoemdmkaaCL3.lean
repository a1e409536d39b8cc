
/- The walks of InvariantOf of both sides, and of its law. -/
import Derived.Test.YthjlpgaoemdmkaaCL1
import Derived.Test.YthjlpgaoemdmkaaGrp2
import Derived.Deep.LoopGhost
namespace Go.Proofs.Ythjlpgaoemdmkaa
open Go Go.RowKit Grp
set_option linter.unusedSimpArgs false
set_option linter.unusedVariables false
set_option maxRecDepth 100000

/-- k times an element, as a number. -/
def Mh (os : List Int) (x : Nat) : Nat → Nat
  | 0 => 0
  | k + 1 => An os (Mh os x k) x
theorem Mh_mul {os : List Int} (h : OkH os) (x k : Nat) : (Mh os x k : Int) = mulR os.reverse k x := by
  induction k with
  | zero =>
    have : mulR os.reverse ((0 : Nat) : Int) x = 0 := by
      have key : ∀ (r : List Int) (y : Int), mulR r 0 y = 0 := by
        intro r
        induction r with
        | nil => intro y; rfl
        | cons m r ih => intro y; simp [mulR, ih]
      exact key _ _
    rw [this]; rfl
  | succ k ih =>
    have h1 := mulR_succ h.posR (k : Int) (x : Int)
    rw [show ((k + 1 : Nat) : Int) = (k : Int) + 1 by omega, ← h1, ← ih]
    have := An_eq h (Mh os x k) x
    unfold Ar at this
    rw [this]; rfl
theorem least' {p : Nat → Prop} : ∀ n, p n → ∃ m, p m ∧ m ≤ n ∧ ∀ j, j < m → ¬ p j := by
  intro n
  induction n using Nat.strongRecOn with
  | _ n ih =>
    intro hn
    by_cases h : ∃ j, j < n ∧ p j
    · obtain ⟨j, hj, hp⟩ := h
      obtain ⟨m, h1, h2, h3⟩ := ih j hj hp
      exact ⟨m, h1, by omega, h3⟩
    · exact ⟨n, hn, Nat.le_refl _, fun j hj hp => h ⟨j, hj, hp⟩⟩
structure IsOr (os : List Int) (x r : Nat) : Prop where
  pos : 1 ≤ r
  le : r ≤ 16
  zero : Mh os x r = 0
  ne : ∀ j : Nat, 1 ≤ j → j < r → Mh os x j ≠ 0
theorem isOr_ex {os : List Int} (h : OkH os) (x : Nat) : ∃ r, IsOr os x r := by
  have h2 := h.ge
  have h16 := h.p16
  obtain ⟨m, ⟨a, b⟩, c, d⟩ := least' (p := fun k : Nat => 1 ≤ k ∧ Mh os x k = 0) (prodL os).toNat ⟨by omega, by
    have h1 := Mh_mul h x (prodL os).toNat
    rw [show ((prodL os).toNat : Int) = prodL os by omega, ← prodL_reverse, mulR_prod] at h1
    rw [← prodL_reverse]; omega⟩
  exact ⟨m, a, by omega, b, fun j j1 j2 hz => d j j2 ⟨j1, hz⟩⟩
open Classical in
noncomputable def orN (os : List Int) (x : Nat) : Nat := if h : ∃ r, IsOr os x r then Classical.choose h else 0
theorem orN_spec {os : List Int} (h : OkH os) (x : Nat) : IsOr os x (orN os x) := by
  have he := isOr_ex h x
  unfold orN
  rw [dif_pos he]
  exact Classical.choose_spec he
/-- The sum over the first k multiples. -/
def ivS (os : List Int) (t : Tb) (x k : Nat) : Int := sm (fun j => t3 t x (Mh os x j) x) k
noncomputable def ivV (os : List Int) (M : Int) (t : Tb) (x : Nat) : Int := ivS os t x (orN os x) % M
open Classical in
noncomputable def ivC (c : cocycle_T) (x : Int) : Int := if ccB c.1 c.2.1 c.2.2 = true ∧ (0 ≤ x ∧ x ≤ (c.2.2.length : Int) - 1) then ivV c.1 c.2.1 c.2.2 x.toNat else 0
noncomputable def ivK (c : cocycle_T) (x : Int) : Int := if ccB c.1 c.2.1 c.2.2 = true then (if inB x 0 ((c.2.2.length : Int) - 1) = true then 0 else 2) else 1
theorem iv_1 {c : cocycle_T} {x : Int} (h : ccB c.1 c.2.1 c.2.2 = false) : ivC c x = 0 ∧ ivK c x = 1 := by unfold ivC ivK; rw [h]; simp
theorem iv_2 {c : cocycle_T} {x : Int} (h : ccB c.1 c.2.1 c.2.2 = true) (hx : ¬ (0 ≤ x ∧ x ≤ (c.2.2.length : Int) - 1)) : ivC c x = 0 ∧ ivK c x = 2 := by unfold ivC ivK; rw [h, inB_f hx, if_neg (by rintro ⟨_, h⟩; exact hx h)]; exact ⟨rfl, rfl⟩
theorem iv_3 {c : cocycle_T} {x : Nat} (h : ccB c.1 c.2.1 c.2.2 = true) (hx : (x : Int) ≤ (c.2.2.length : Int) - 1) : ivC c x = ivV c.1 c.2.1 c.2.2 x ∧ ivK c x = 0 := by
  unfold ivC ivK; rw [h, inB_t (by omega) hx, if_pos ⟨rfl, by omega, hx⟩]; exact ⟨by simp, rfl⟩
theorem ivS_rng {os : List Int} {M : Int} {t : Tb} (hC : IsCh os M t) (hH : OkH os) {x k : Nat} (hx : x < t.length) : 0 ≤ ivS os t x k ∧ ivS os t x k ≤ 999 * (k : Int) := by
  unfold ivS
  induction k with
  | zero => simp [sm]
  | succ k ih =>
    have hm : Mh os x k < t.length := by
      cases k with
      | zero => unfold Mh; omega
      | succ k => exact An_lt hH hC.len _ _
    have := hC.t3rng hx hm hx
    simp only [sm]
    omega
theorem Mh_one {os : List Int} (hH : OkH os) {n x : Nat} (hn : (n : Int) = prodL os) (hx : x < n) : Mh os x 1 = x := by
  have h1 : Mh os x 1 = An os 0 x := rfl
  have h2 := An_eq hH 0 x
  have h3 : Ar os ((0 : Nat) : Int) x = x := by unfold Ar; rw [addR_comm]; exact arH_zero hH (by omega) (by omega)
  rw [h1]; omega
theorem l17Code_any (w : World) (A : Option Addr) (n c : Nat) (os : List Int) (M : Int) (D : Option Addr) (e f : Nat) (t : Tb) (x : Int) (h : Sl w w.heap.size A n c os) (h' : Sl3 w w.heap.size D e f t) (hm : i64ok M) (hs : ShC os t) :
    Calls Try.prog 87 #[.agg #[.slice A n c, .int .i64 M, .slice D e f], .int .i64 x] w (Re w (.int .i64 (ivK (os, M, t) x))) := by
  obtain rfl := h'.len
  have hlt := hs.2.1
  have hwl : IntKind.i64.wrap ((t.length : Int) - 1) = (t.length : Int) - 1 := wr64 _ ⟨by omega, by omega⟩
  cases hc : ccB os M t with
  | false =>
    have HE := hide (iv_1 (c := (os, M, t)) (x := x) hc).2
    go_enter Try.func87, Try.ntmps87
    go_wp2_with fail
    obtain ⟨W, hW⟩ : ∃ W, w.alloc (.cells #[.slice A n c, .int .i64 M, .slice D t.length f] 25) = W := ⟨_, rfl⟩
    have hbW : Below w.heap.size w W := by rw [← hW]; exact (by repeat (first | assumption | exact Below.refl _ _ | apply below_drewN | apply Below.drew | apply Below.alloc | apply Below.setCell | omega | (focus (simp; done)) | (focus (simp; omega))))
    have hszW : w.heap.size < W.heap.size := by rw [← hW]; simp
    have hsW := hide (show W.heap.size = w.heap.size + 1 by rw [← hW]; simp)
    have q0 : W.cell? ⟨w.heap.size, 0, none⟩ = some (.slice A n c) := by rw [← hW]; exact (Blk.new _ _ _).cell 0
    have q1 : W.cell? ⟨w.heap.size, 1, none⟩ = some (.int .i64 M) := by rw [← hW]; exact (Blk.new _ _ _).cell 1
    have q2 : W.cell? ⟨w.heap.size, 2, none⟩ = some (.slice D t.length f) := by rw [← hW]; exact (Blk.new _ _ _).cell 2
    rw [hW]
    clear hW
    have HS := hide (l17Is_any W A n c os M D t.length f t ((h.below hbW).more (Nat.le_of_lt hszW)) ((h'.below hbW).more (Nat.le_of_lt hszW)) hm hs)
    refine HS.out.mono ?_
    rw [hc]
    rintro e' w1 ⟨rfl, hb⟩
    clear hc
    go_wp2_with fail
    go_ret
    exact ⟨by rw [HE.out]; rfl, hbW.trans (hb.mono (Nat.le_of_lt hszW))⟩
  | true =>
    by_cases hx : 0 ≤ x ∧ x ≤ (t.length : Int) - 1
    all_goals
      first
        | (have HE := hide (show ivK (os, M, t) x = 0 by unfold ivK; simp only; rw [hc, inB_t hx.1 hx.2]; rfl); have hxi := inB_t hx.1 hx.2)
        | (have HE := hide (iv_2 (c := (os, M, t)) hc hx).2; have hxi := inB_f hx)
      clear hx
      go_enter Try.func87, Try.ntmps87
      go_wp2_with fail
      obtain ⟨W, hW⟩ : ∃ W, w.alloc (.cells #[.slice A n c, .int .i64 M, .slice D t.length f] 25) = W := ⟨_, rfl⟩
      have hbW : Below w.heap.size w W := by rw [← hW]; exact (by repeat (first | assumption | exact Below.refl _ _ | apply below_drewN | apply Below.drew | apply Below.alloc | apply Below.setCell | omega | (focus (simp; done)) | (focus (simp; omega))))
      have hszW : w.heap.size < W.heap.size := by rw [← hW]; simp
      have hsW := hide (show W.heap.size = w.heap.size + 1 by rw [← hW]; simp)
      have q0 : W.cell? ⟨w.heap.size, 0, none⟩ = some (.slice A n c) := by rw [← hW]; exact (Blk.new _ _ _).cell 0
      have q1 : W.cell? ⟨w.heap.size, 1, none⟩ = some (.int .i64 M) := by rw [← hW]; exact (Blk.new _ _ _).cell 1
      have q2 : W.cell? ⟨w.heap.size, 2, none⟩ = some (.slice D t.length f) := by rw [← hW]; exact (Blk.new _ _ _).cell 2
      rw [hW]
      clear hW
      have HS := hide (l17Is_any W A n c os M D t.length f t ((h.below hbW).more (Nat.le_of_lt hszW)) ((h'.below hbW).more (Nat.le_of_lt hszW)) hm hs)
      refine HS.out.mono ?_
      rw [hc]
      rintro e' w1 ⟨rfl, hb⟩
      clear hc
      have r0 := (hb.cell (p := ⟨w.heap.size, 0, none⟩) hszW).trans q0
      have r1 := (hb.cell (p := ⟨w.heap.size, 1, none⟩) hszW).trans q1
      have r2 := (hb.cell (p := ⟨w.heap.size, 2, none⟩) hszW).trans q2
      go_wp2_with fail
      clear r0 r1 r2
      refine (l01In_v _ _ _ _ _ hxi).mono ?_
      rintro e' w2 ⟨rfl, d, rfl⟩
      go_wp2_with fail
      go_ret
      exact ⟨by rw [HE.out]; rfl, below_drewN (hbW.trans (hb.mono (Nat.le_of_lt hszW))) _⟩
theorem isElement_any (w : World) (a m : Value) (x : Int) (b : Bool) (A : Option Addr) (n c : Nat) (h : inB x 0 ((n : Int) - 1) = b) (hn : n ≤ 1048576) :
    Calls Try.prog 88 #[.agg #[a, m, .slice A n c], .int .i64 x] w (Re w (.bool b)) := by
  have hwl : IntKind.i64.wrap ((n : Int) - 1) = (n : Int) - 1 := wr64 _ ⟨by omega, by omega⟩
  go_enter Try.func88, Try.ntmps88
  go_wp2_with fail
  refine (within_v b _ _ _ _ h).mono ?_
  rintro e' w2 ⟨rfl, d, rfl⟩
  go_wp2_with fail
  go_ret
  exact ⟨rfl, (by repeat (first | assumption | exact Below.refl _ _ | apply below_drewN | apply Below.drew | apply Below.alloc | apply Below.setCell | omega | (focus (simp; done)) | (focus (simp; omega))))⟩

set_option maxHeartbeats 4000000 in
theorem specInv_c (w : World) (v : Value) (x : cocycle_T) (h : cocycle_R w w.heap.size v x) (hs0 : cocycle_Sh x) (a : Int) (wa : i64ok a) : Calls Try.prog 37 #[v, .int .i64 a] w (Re w (.tuple #[.int .i64 (ivC x a), .int .i64 (ivK x a)])) := by
  obtain ⟨A, n, c, D, m, e, rfl, h, h', hm⟩ := h
  have hs := shC_of hs0
  obtain ⟨os, M, t⟩ := x
  simp only at h h' hm hs ⊢
  clear hs0
  obtain rfl := h.len
  obtain rfl := h'.len
  have HK := hide (fun W (hW : Below w.heap.size w W) => l17Code_any W A os.length c os M D t.length e t a ((h.below hW).more hW.size) ((h'.below hW).more hW.size) hm hs)
  obtain ⟨k, hk⟩ : ∃ k, ivK (os, M, t) a = k := ⟨_, rfl⟩
  rw [hk] at HK ⊢
  by_cases hk0 : k = 0
  rotate_left
  · have hkb : (k != 0) = true := by simp [hk0]
    have hC0 : ivC (os, M, t) a = 0 := by
      cases hc : ccB os M t with
      | false => exact (iv_1 (c := (os, M, t)) hc).1
      | true =>
        by_cases hx : 0 ≤ a ∧ a ≤ (t.length : Int) - 1
        · exact absurd (show k = 0 by rw [← hk]; unfold ivK; simp only; rw [hc, inB_t hx.1 hx.2]; rfl) hk0
        · exact (iv_2 (c := (os, M, t)) hc hx).1
    have HC0 := hide hC0
    clear hk hk0 hC0
    go_enter Try.func37, Try.ntmps37
    go_wp2_with fail
    obtain ⟨W, hW⟩ : ∃ W, w.alloc (.cells #[.slice A os.length c, .int .i64 M, .slice D t.length e] 25) = W := ⟨_, rfl⟩
    have hbW : Below w.heap.size w W := by rw [← hW]; exact (by repeat (first | assumption | exact Below.refl _ _ | apply below_drewN | apply Below.drew | apply Below.alloc | apply Below.setCell | omega | (focus (simp; done)) | (focus (simp; omega))))
    have hszW : w.heap.size < W.heap.size := by rw [← hW]; simp
    have hsW := hide (show W.heap.size = w.heap.size + 1 by rw [← hW]; simp)
    have q0 : W.cell? ⟨w.heap.size, 0, none⟩ = some (.slice A os.length c) := by rw [← hW]; exact (Blk.new _ _ _).cell 0
    have q1 : W.cell? ⟨w.heap.size, 1, none⟩ = some (.int .i64 M) := by rw [← hW]; exact (Blk.new _ _ _).cell 1
    have q2 : W.cell? ⟨w.heap.size, 2, none⟩ = some (.slice D t.length e) := by rw [← hW]; exact (Blk.new _ _ _).cell 2
    rw [hW]
    clear hW
    refine (HK.out _ hbW).mono ?_
    rintro e' w1 ⟨rfl, hb⟩
    go_wp2_with fail
    refine bodyPost_ret (v := .tuple #[.int .i64 0, .int .i64 k]) (by simp [results, Try.results37, go_sem]) rfl ?_
    exact ⟨by rw [HC0.out], hbW.trans (hb.mono (Nat.le_of_lt hszW))⟩
  subst hk0
  have hcc : ccB os M t = true ∧ (0 ≤ a ∧ a ≤ (t.length : Int) - 1) := by
    unfold ivK at hk
    simp only at hk
    cases hc : ccB os M t with
    | false => rw [hc] at hk; simp at hk
    | true =>
      refine ⟨rfl, ?_⟩
      rw [hc] at hk
      by_cases hx : 0 ≤ a ∧ a ≤ (t.length : Int) - 1
      · exact hx
      · rw [inB_f hx] at hk; simp at hk
  obtain ⟨hc, ha0, ha1⟩ := hcc
  obtain ⟨x, rfl⟩ : ∃ x : Nat, a = (x : Int) := ⟨a.toNat, by omega⟩
  have HIV := hide (iv_3 (c := (os, M, t)) (x := x) hc ha1).1
  obtain ⟨hCh, _, _⟩ := ccB_t hc
  obtain ⟨b, off, b1, o1, c1, b2, o2, c2, rfl, hV⟩ := view_of h' hCh.pos hCh.rows
  have hH := hCh.ok hs.1
  have hxl : x < t.length := by omega
  have hn8 := hCh.le
  have hM1 := hCh.m1
  have hM2 := hCh.m2
  have HO := hide (orN_spec hH x)
  obtain ⟨r, hr⟩ : ∃ r, orN os x = r := ⟨_, rfl⟩
  have HRR := hide hr
  rw [hr] at HO
  have hr1 := HO.out.pos
  have hr16 := HO.out.le
  have HMl := hide (show ∀ k, Mh os x k < t.length from fun k => by
    cases k with
    | zero => unfold Mh; omega
    | succ k => exact An_lt hH hCh.len _ _)
  have HA := hide (An_eq hH)
  clear hk hc ha0 ha1 hr
  go_enter Try.func37, Try.ntmps37
  go_wp2_with fail
  obtain ⟨W, hW⟩ : ∃ W, w.alloc (.cells #[.slice A os.length c, .int .i64 M, .slice (some ⟨b, off, none⟩) t.length e] 25) = W := ⟨_, rfl⟩
  have hbW : Below w.heap.size w W := by rw [← hW]; exact (by repeat (first | assumption | exact Below.refl _ _ | apply below_drewN | apply Below.drew | apply Below.alloc | apply Below.setCell | omega | (focus (simp; done)) | (focus (simp; omega))))
  have hszW : w.heap.size < W.heap.size := by rw [← hW]; simp
  have hsW := hide (show W.heap.size = w.heap.size + 1 by rw [← hW]; simp)
  have q0 : W.cell? ⟨w.heap.size, 0, none⟩ = some (.slice A os.length c) := by rw [← hW]; exact (Blk.new _ _ _).cell 0
  have q1 : W.cell? ⟨w.heap.size, 1, none⟩ = some (.int .i64 M) := by rw [← hW]; exact (Blk.new _ _ _).cell 1
  have q2 : W.cell? ⟨w.heap.size, 2, none⟩ = some (.slice (some ⟨b, off, none⟩) t.length e) := by rw [← hW]; exact (Blk.new _ _ _).cell 2
  rw [hW]
  clear hW
  refine (HK.out _ hbW).mono ?_
  rintro e' w1 ⟨rfl, hb⟩
  have r0 := (hb.cell (p := ⟨w.heap.size, 0, none⟩) hszW).trans q0
  have r1 := (hb.cell (p := ⟨w.heap.size, 1, none⟩) hszW).trans q1
  have r2 := (hb.cell (p := ⟨w.heap.size, 2, none⟩) hszW).trans q2
  have hb1 := hbW.trans (hb.mono (Nat.le_of_lt hszW))
  have V := hV.le hb1
  have hsl := h.below hb1
  have g1 := (V.h1 x hxl).1
  have g2 := (V.h2 x 0 hxl (by omega)).1
  have g3 := V.h3 x 0 x hxl (by omega) hxl
  simp only [Nat.add_zero] at g2
  have n0 : 0 < t.length := by omega
  go_wp2_with fail
  go_loopg [7, 8] r (fun gk s y wr => ∃ (j u : Nat) (q : Int), 1 ≤ j ∧ j ≤ r ∧ gk + j = r + 1 ∧ u < t.length ∧ y = .int .i64 u ∧ s = .int .i64 q ∧ 0 ≤ q ∧ q ≤ 999 * (j : Int) ∧ Hid (u = Mh os x j) ∧ Hid (q = ivS os t x j) ∧ ∃ d, w1.drewN d = wr)
  case atStart =>
    have h9 := hCh.t3rng hxl (show 0 < t.length by omega) hxl
    exact ⟨1, x, t3 t x 0 x, by omega, hr1, rfl, hxl, rfl, rfl, h9.1, by have := h9.2; omega, hide (Mh_one hH hCh.len hxl).symm, hide (by unfold ivS; simp [sm, Mh]), 0, by rfl⟩
  case round =>
    clear g1 g2 g3
    obtain ⟨j, u, q, hj1, hjr, hgk, hul, rfl, rfl, hq0, hq1, HU, HQ, d, rfl⟩ := hrel
    have HGK := hide hgk
    clear hgk
    by_cases hjr2 : j < r
    · have hne := HO.out.ne j hj1 hjr2
      rw [← HU.out] at hne
      have hub : ((u : Int) != 0) = true := by simp; omega
      have g1 := (V.h1 x hxl).1
      have g2 := (V.h2 x u hxl hul).1
      have g3 := V.h3 x u x hxl hul hxl
      have h9 := hCh.t3rng hxl hul hxl
      have hq' : ivS os t x (j + 1) = q + t3 t x u x := by unfold ivS; simp only [sm]; rw [HQ.out, HU.out]; rfl
      obtain ⟨v, hv⟩ : ∃ v, t3 t x u x = v := ⟨_, rfl⟩
      rw [hv] at g3 h9 hq'
      have HQ' := hide hq'
      have hwq : IntKind.i64.wrap (q + v) = q + v := wr64 _ ⟨by omega, by omega⟩
      have hadd := l06Add_any (w1.drewN d) w.heap.size A os.length c os u x (hsl.drewN d) hH (by omega) (by omega) (by omega) (by omega)
      rw [HA.out u x] at hadd
      obtain ⟨u', hu'⟩ : ∃ u', An os u x = u' := ⟨_, rfl⟩
      rw [hu'] at hadd
      have HU' := hide (show u' = Mh os x (j + 1) by rw [← hu', HU.out]; rfl)
      have hul' : u' < t.length := by rw [HU'.out]; exact HMl.out _
      have HAD := hide hadd
      clear hq' hv hadd hu' hne
      go_wp2_with fail
      refine HAD.out.mono ?_
      rintro e' w2 ⟨rfl, d2, rfl⟩
      go_wp2_with fail
      go_roundg (r - j)
      case measure => have := HGK.out; omega
      case rel => exact ⟨j + 1, u', q + v, by omega, by omega, by omega, hul', rfl, rfl, by omega, by omega, hide HU'.out, hide HQ'.out.symm, d + d2, rfl⟩
    · obtain rfl : j = r := by omega
      have hu0 : u = 0 := by rw [HU.out]; exact HO.out.zero
      subst hu0
      have hMe : q.tmod M = q % M := Int.tmod_eq_emod_of_nonneg hq0
      have hval := hide (show ivC (os, M, t) x = q % M by rw [HIV.out]; unfold ivV; rw [HRR.out, HQ.out])
      have hM0 : ¬ M = 0 := by omega
      obtain ⟨y, hy⟩ : ∃ y, q % M = y := ⟨_, rfl⟩
      rw [hy] at hMe hval
      clear hy
      go_wp2_with fail
      refine bodyPost_ret (v := .tuple #[.int .i64 y, .int .i64 0]) (by simp [results, Try.results37, go_sem]) rfl ?_
      exact ⟨by rw [hval.out], below_drewN hb1 _⟩

set_option maxHeartbeats 4000000 in
theorem implInv_c (w : World) (v : Value) (x : cocycle_T) (h : cocycle_R w w.heap.size v x) (hs0 : cocycle_Sh x) (a : Int) (wa : i64ok a) : Calls Try.prog 38 #[v, .int .i64 a] w (Re w (.tuple #[.int .i64 (ivC x a), .int .i64 (ivK x a)])) := by
  obtain ⟨A, n, c, D, m, e, rfl, h, h', hm⟩ := h
  have hs := shC_of hs0
  obtain ⟨os, M, t⟩ := x
  simp only at h h' hm hs ⊢
  clear hs0
  obtain rfl := h.len
  obtain rfl := h'.len
  have HK := hide (fun W (hW : Below w.heap.size w W) => implIsCocycle_any W A os.length c os M D t.length e t ((h.below hW).more hW.size) ((h'.below hW).more hW.size) hm hs)
  cases hc : ccB os M t with
  | false =>
    have HE := hide (iv_1 (c := (os, M, t)) (x := a) hc)
    rw [hc] at HK
    clear hc
    go_enter Try.func38, Try.ntmps38
    go_wp2_with fail
    obtain ⟨W, hW⟩ : ∃ W, w.alloc (.cells #[.slice A os.length c, .int .i64 M, .slice D t.length e] 25) = W := ⟨_, rfl⟩
    have hbW : Below w.heap.size w W := by rw [← hW]; exact (by repeat (first | assumption | exact Below.refl _ _ | apply below_drewN | apply Below.drew | apply Below.alloc | apply Below.setCell | omega | (focus (simp; done)) | (focus (simp; omega))))
    have hszW : w.heap.size < W.heap.size := by rw [← hW]; simp
    have hsW := hide (show W.heap.size = w.heap.size + 1 by rw [← hW]; simp)
    have q0 : W.cell? ⟨w.heap.size, 0, none⟩ = some (.slice A os.length c) := by rw [← hW]; exact (Blk.new _ _ _).cell 0
    have q1 : W.cell? ⟨w.heap.size, 1, none⟩ = some (.int .i64 M) := by rw [← hW]; exact (Blk.new _ _ _).cell 1
    have q2 : W.cell? ⟨w.heap.size, 2, none⟩ = some (.slice D t.length e) := by rw [← hW]; exact (Blk.new _ _ _).cell 2
    rw [hW]
    clear hW
    refine (HK.out _ hbW).mono ?_
    rintro e' w1 ⟨rfl, hb⟩
    go_wp2_with fail
    refine bodyPost_ret (v := .tuple #[.int .i64 0, .int .i64 1]) (by simp [results, Try.results38, go_sem]) rfl ?_
    exact ⟨by rw [HE.out.1, HE.out.2], hbW.trans (hb.mono (Nat.le_of_lt hszW))⟩
  | true =>
    rw [hc] at HK
    by_cases hx : 0 ≤ a ∧ a ≤ (t.length : Int) - 1
    rotate_left
    · have HE := hide (iv_2 (c := (os, M, t)) hc hx)
      have hxi := inB_f hx
      clear hc hx
      go_enter Try.func38, Try.ntmps38
      go_wp2_with fail
      obtain ⟨W, hW⟩ : ∃ W, w.alloc (.cells #[.slice A os.length c, .int .i64 M, .slice D t.length e] 25) = W := ⟨_, rfl⟩
      have hbW : Below w.heap.size w W := by rw [← hW]; exact (by repeat (first | assumption | exact Below.refl _ _ | apply below_drewN | apply Below.drew | apply Below.alloc | apply Below.setCell | omega | (focus (simp; done)) | (focus (simp; omega))))
      have hszW : w.heap.size < W.heap.size := by rw [← hW]; simp
      have hsW := hide (show W.heap.size = w.heap.size + 1 by rw [← hW]; simp)
      have q0 : W.cell? ⟨w.heap.size, 0, none⟩ = some (.slice A os.length c) := by rw [← hW]; exact (Blk.new _ _ _).cell 0
      have q1 : W.cell? ⟨w.heap.size, 1, none⟩ = some (.int .i64 M) := by rw [← hW]; exact (Blk.new _ _ _).cell 1
      have q2 : W.cell? ⟨w.heap.size, 2, none⟩ = some (.slice D t.length e) := by rw [← hW]; exact (Blk.new _ _ _).cell 2
      rw [hW]
      clear hW
      refine (HK.out _ hbW).mono ?_
      rintro e' w1 ⟨rfl, hb⟩
      have r0 := (hb.cell (p := ⟨w.heap.size, 0, none⟩) hszW).trans q0
      have r1 := (hb.cell (p := ⟨w.heap.size, 1, none⟩) hszW).trans q1
      have r2 := (hb.cell (p := ⟨w.heap.size, 2, none⟩) hszW).trans q2
      go_wp2_with fail
      clear r0 r1 r2
      refine (isElement_any _ _ _ _ false _ _ _ hxi hs.2.1).mono ?_
      rintro e' w2 ⟨rfl, hb2⟩
      go_wp2_with fail
      refine bodyPost_ret (v := .tuple #[.int .i64 0, .int .i64 2]) (by simp [results, Try.results38, go_sem]) rfl ?_
      have hb1 := hbW.trans (hb.mono (Nat.le_of_lt hszW))
      exact ⟨by rw [HE.out.1, HE.out.2], hb1.trans (hb2.mono hb1.size)⟩
    obtain ⟨ha0, ha1⟩ := hx
    have hxi := inB_t ha0 ha1
    obtain ⟨x, rfl⟩ : ∃ x : Nat, a = (x : Int) := ⟨a.toNat, by omega⟩
    have HIV := hide (iv_3 (c := (os, M, t)) (x := x) hc ha1)
    obtain ⟨hCh, _, _⟩ := ccB_t hc
    obtain ⟨b, off, b1, o1, c1, b2, o2, c2, rfl, hV⟩ := view_of h' hCh.pos hCh.rows
    have hH := hCh.ok hs.1
    have hxl : x < t.length := by omega
    have hn8 := hCh.le
    have hM1 := hCh.m1
    have hM2 := hCh.m2
    have HO := hide (orN_spec hH x)
    obtain ⟨r, hr⟩ : ∃ r, orN os x = r := ⟨_, rfl⟩
    have HRR := hide hr
    rw [hr] at HO
    have hr1 := HO.out.pos
    have hr16 := HO.out.le
    have HMl := hide (show ∀ k, Mh os x k < t.length from fun k => by
      cases k with
      | zero => unfold Mh; omega
      | succ k => exact An_lt hH hCh.len _ _)
    have hwx : IntKind.i64.wrap (x : Int) = x := wr64 _ ⟨by omega, by omega⟩
    clear hc ha0 ha1 hr
    go_enter Try.func38, Try.ntmps38
    go_wp2_with fail
    obtain ⟨W, hW⟩ : ∃ W, w.alloc (.cells #[.slice A os.length c, .int .i64 M, .slice (some ⟨b, off, none⟩) t.length e] 25) = W := ⟨_, rfl⟩
    have hbW : Below w.heap.size w W := by rw [← hW]; exact (by repeat (first | assumption | exact Below.refl _ _ | apply below_drewN | apply Below.drew | apply Below.alloc | apply Below.setCell | omega | (focus (simp; done)) | (focus (simp; omega))))
    have hszW : w.heap.size < W.heap.size := by rw [← hW]; simp
    have hsW := hide (show W.heap.size = w.heap.size + 1 by rw [← hW]; simp)
    have q0 : W.cell? ⟨w.heap.size, 0, none⟩ = some (.slice A os.length c) := by rw [← hW]; exact (Blk.new _ _ _).cell 0
    have q1 : W.cell? ⟨w.heap.size, 1, none⟩ = some (.int .i64 M) := by rw [← hW]; exact (Blk.new _ _ _).cell 1
    have q2 : W.cell? ⟨w.heap.size, 2, none⟩ = some (.slice (some ⟨b, off, none⟩) t.length e) := by rw [← hW]; exact (Blk.new _ _ _).cell 2
    rw [hW]
    clear hW
    refine (HK.out _ hbW).mono ?_
    rintro e' w1 ⟨rfl, hb⟩
    have r0 := (hb.cell (p := ⟨w.heap.size, 0, none⟩) hszW).trans q0
    have r1 := (hb.cell (p := ⟨w.heap.size, 1, none⟩) hszW).trans q1
    have r2 := (hb.cell (p := ⟨w.heap.size, 2, none⟩) hszW).trans q2
    go_wp2_with fail
    clear r0 r1 r2
    refine (isElement_any _ _ _ _ true _ _ _ hxi hs.2.1).mono ?_
    rintro e' w2 ⟨rfl, hb2⟩
    have hbb := hb.trans (hb2.mono hb.size)
    clear hb hb2
    go_wp2_with fail
    go_loopg [6, 7] r (fun gk s y wr => ∃ (j u : Nat) (q : Int), j < r ∧ gk + j = r ∧ u < t.length ∧ y = .int .i64 u ∧ s = .int .i64 q ∧ 0 ≤ q ∧ q ≤ 999 * (j : Int) ∧ Hid (u = Mh os x j) ∧ Hid (q = ivS os t x j) ∧ Below W.heap.size W wr)
    case atStart => exact ⟨0, 0, 0, by omega, by omega, by omega, rfl, rfl, by omega, by omega, hide rfl, hide rfl, hbb⟩
    case round =>
      clear hbb
      obtain ⟨j, u, q, hj1, hgk, hul, rfl, rfl, hq0, hq1, HU, HQ, hBe⟩ := hrel
      have HGK := hide hgk
      clear hgk
      have V := hV.le (hbW.trans (hBe.mono (Nat.le_of_lt hszW)))
      have r0 := (hBe.cell (p := ⟨w.heap.size, 0, none⟩) hszW).trans q0
      have r1 := (hBe.cell (p := ⟨w.heap.size, 1, none⟩) hszW).trans q1
      have r2 := (hBe.cell (p := ⟨w.heap.size, 2, none⟩) hszW).trans q2
      have g1 := (V.h1 x hxl).1
      have g2 := (V.h2 x u hxl hul).1
      have g3 := V.h3 x u x hxl hul hxl
      have h9 := hCh.t3rng hxl hul hxl
      have hq' : ivS os t x (j + 1) = q + t3 t x u x := by unfold ivS; simp only [sm]; rw [HQ.out, HU.out]; rfl
      obtain ⟨v, hv⟩ : ∃ v, t3 t x u x = v := ⟨_, rfl⟩
      rw [hv] at g3 h9 hq'
      have HQ' := hide hq'
      have hwq : IntKind.i64.wrap (q + v) = q + v := wr64 _ ⟨by omega, by omega⟩
      have hsl := (h.below (hbW.trans (hBe.mono (Nat.le_of_lt hszW)))).more (Nat.le_trans (Nat.le_of_lt hszW) hBe.size)
      have hadd := plus_any wr A os.length c os (.int .i64 M) (.slice (some ⟨b, off, none⟩) t.length e) u x hsl hH (by omega) (by omega)
      obtain ⟨u', hu'⟩ : ∃ u', An os u x = u' := ⟨_, rfl⟩
      rw [hu'] at hadd
      have HU' := hide (show u' = Mh os x (j + 1) by rw [← hu', HU.out]; rfl)
      have hul' : u' < t.length := by rw [HU'.out]; exact HMl.out _
      have HAD := hide hadd
      clear hq' hv hadd hu'
      go_wp2_with fail
      clear r0 r1 r2 g1 g2 g3
      refine HAD.out.mono ?_
      rintro e' w2 ⟨rfl, hb2⟩
      have hB2 := hBe.trans (hb2.mono hBe.size)
      have r0 := (hB2.cell (p := ⟨w.heap.size, 0, none⟩) hszW).trans q0
      have r1 := (hB2.cell (p := ⟨w.heap.size, 1, none⟩) hszW).trans q1
      have r2 := (hB2.cell (p := ⟨w.heap.size, 2, none⟩) hszW).trans q2
      by_cases hjr : j + 1 < r
      · have hne := HO.out.ne (j + 1) (by omega) hjr
        rw [← HU'.out] at hne
        have hub : ((u' : Int) == 0) = false := by simp; omega
        clear hne
        go_wp2_with fail
        go_roundg (r - (j + 1))
        case measure => have := HGK.out; omega
        case rel => exact ⟨j + 1, u', q + v, by omega, by omega, hul', rfl, rfl, by omega, by omega, hide HU'.out, hide HQ'.out.symm, hB2⟩
      · have hjr' : j + 1 = r := by omega
        have hu0 : u' = 0 := by rw [HU'.out, hjr']; exact HO.out.zero
        subst hu0
        have hval := hide (show ivC (os, M, t) x = (q + v) % M by rw [HIV.out.1]; unfold ivV; rw [HRR.out, ← hjr', HQ'.out])
        obtain ⟨s, hs'⟩ : ∃ s, q + v = s := ⟨_, rfl⟩
        rw [hs'] at hval hwq
        have HSS := hide hs'
        have HRE := hide (restC_any w2 (.slice A os.length c) (.slice (some ⟨b, off, none⟩) t.length e) M s hM1 (by omega))
        go_wp2_with fail
        clear r0 r1 r2
        refine HRE.out.mono ?_
        rintro e' w3 ⟨rfl, hb3⟩
        go_wp2_with fail
        refine bodyPost_ret (v := .tuple #[.int .i64 (s % M), .int .i64 0]) (by simp [results, Try.results38, go_sem]) rfl ?_
        have hB3 := hB2.trans (hb3.mono hB2.size)
        exact ⟨by rw [hval.out, HIV.out.2], hbW.trans (hB3.mono (Nat.le_of_lt hszW))⟩
set_option maxHeartbeats 8000000 in
set_option maxRecDepth 100000 in
theorem law_InvariantOf {w : World} (v0 : Value) (x0 : cocycle_T) (HA0 : cocycle_R w w.heap.size v0 x0) (HB0 : cocycle_Big x0) (a1 : Int) (wa1 : i64ok a1) : Calls Try.prog 10 #[v0, .int .i64 a1] w (Re w (.bool true)) := by
  obtain ⟨A0, n0, c0, z0, D0, m0, e0, rfl, hf⟩ := cocycle_form HA0
  clear hf
  by_cases q0 : (1048576 : Int) - (cocycle_tot x0 : Int) < 0
  · have HZ0 := hide (fun (W : World) (h : Below w.heap.size w W) => cocycle_sz W _ x0 1048576 (cocycle_keep HA0 h h.size) HB0 (by omega) (by omega))
    rw [szI_no q0] at HZ0
    go_enter Try.func10, Try.ntmps10
    go_wp2_with fail
    obtain ⟨W, hW⟩ : ∃ W, w.alloc (.cells #[.slice A0 n0 c0, .int .i64 z0, .slice D0 m0 e0] 47) = W := ⟨_, rfl⟩
    have kw : Below w.heap.size w W := by rw [← hW]; exact (by repeat (first | assumption | exact Below.refl _ _ | apply below_drewN | apply Below.drew | apply Below.alloc | apply Below.setCell | omega | (focus (simp; done)) | (focus (simp; omega))))
    have bA0 : Blk W (w.heap.size) 47 #[.slice A0 n0 c0, .int .i64 z0, .slice D0 m0 e0] := by rw [← hW]; exact (Blk.new' _ _ _ _ (by simp))
    have sA0 : w.heap.size < W.heap.size := bA0.lt
    rw [hW]
    clear hW
    refine (HZ0.out _ kw).mono ?_
    rintro e ws0 ⟨rfl, hb⟩
    replace kw := kw.trans (hb.mono kw.size)
    replace bA0 := bA0.all hb
    replace sA0 := Nat.lt_of_lt_of_le sA0 hb.size
    clear hb
    have bA0c0 := bA0.cell 0
    have bA0c1 := bA0.cell 1
    have bA0c2 := bA0.cell 2
    go_wp2_with fail
    clear bA0c0 bA0c1 bA0c2
    go_ret
    exact ⟨rfl, kw⟩
  · have HZ0 := hide (fun (W : World) (h : Below w.heap.size w W) => cocycle_sz W _ x0 1048576 (cocycle_keep HA0 h h.size) HB0 (by omega) (by omega))
    rw [szI_ok q0] at HZ0
    have HS0 : cocycle_tot x0 ≤ 1048576 := by omega
    obtain ⟨l1, el1⟩ : ∃ l, (1048576 : Int) - (cocycle_tot x0 : Int) = l := ⟨_, rfl⟩
    have bl1a : 0 ≤ l1 := by omega
    have bl1b : l1 ≤ 1048576 := by omega
    rw [el1] at HZ0
    clear el1 q0
    have SH0 := cocycle_sh HS0
    have SL0 := cocycle_sumle x0
    obtain ⟨y0, hy0⟩ : ∃ y : Int, ivC x0 a1 = y := ⟨_, rfl⟩
    have HY0 := hide hy0
    clear hy0
    obtain ⟨y1, hy1⟩ : ∃ y : Int, ivK x0 a1 = y := ⟨_, rfl⟩
    have HY1 := hide hy1
    clear hy1
    go_enter Try.func10, Try.ntmps10
    go_wp2_with fail
    obtain ⟨W, hW⟩ : ∃ W, w.alloc (.cells #[.slice A0 n0 c0, .int .i64 z0, .slice D0 m0 e0] 47) = W := ⟨_, rfl⟩
    have kw : Below w.heap.size w W := by rw [← hW]; exact (by repeat (first | assumption | exact Below.refl _ _ | apply below_drewN | apply Below.drew | apply Below.alloc | apply Below.setCell | omega | (focus (simp; done)) | (focus (simp; omega))))
    have bA0 : Blk W (w.heap.size) 47 #[.slice A0 n0 c0, .int .i64 z0, .slice D0 m0 e0] := by rw [← hW]; exact (Blk.new' _ _ _ _ (by simp))
    have sA0 : w.heap.size < W.heap.size := bA0.lt
    rw [hW]
    clear hW
    refine (HZ0.out _ kw).mono ?_
    rintro e ws0 ⟨rfl, hb⟩
    replace kw := kw.trans (hb.mono kw.size)
    replace bA0 := bA0.all hb
    replace sA0 := Nat.lt_of_lt_of_le sA0 hb.size
    clear hb
    have bA0c0 := bA0.cell 0
    have bA0c1 := bA0.cell 1
    have bA0c2 := bA0.cell 2
    go_wp2_with fail
    clear bA0c0 bA0c1 bA0c2
    refine (cocycle_to _ _ x0 (cocycle_keep HA0 kw kw.size) SH0).mono ?_
    rintro e t1 ⟨u, rfl, he, hb⟩
    obtain ⟨As0, ns0, cs0, zs0, Ds0, ms0, es0, rfl, hf⟩ := cocycle_form (cocycle_rd he)
    clear hf
    have hbs := hb.size
    replace kw := kw.trans (hb.mono kw.size)
    replace bA0 := bA0.all hb
    replace sA0 := Nat.lt_of_lt_of_le sA0 hb.size
    clear hb
    clear hbs
    have Es0 := he
    clear he
    have bA0c0 := bA0.cell 0
    have bA0c1 := bA0.cell 1
    have bA0c2 := bA0.cell 2
    go_wp2_with fail
    clear bA0c0 bA0c1 bA0c2
    have hcl := (specInv_c _ _ x0 (cocycle_rd Es0) SH0 a1 wa1)
    rw [HY0.out, HY1.out] at hcl
    have HCL := hide hcl
    clear hcl
    refine HCL.out.mono ?_
    rintro e t2 ⟨rfl, hb⟩
    clear HCL
    replace kw := kw.trans (hb.mono kw.size)
    replace bA0 := bA0.all hb
    replace sA0 := Nat.lt_of_lt_of_le sA0 hb.size
    replace Es0 := cocycle_below Es0 hb
    clear hb
    clear Es0
    have SA0t2 := sA0
    have Kt2 := kw.size
    have Zt2 := Nat.le_refl t2.heap.size
    have bA0c0 := bA0.cell 0
    have bA0c1 := bA0.cell 1
    have bA0c2 := bA0.cell 2
    go_wp2_with fail
    clear bA0c0 bA0c1 bA0c2
    refine (cocycle_to _ _ x0 (cocycle_keep HA0 kw kw.size) SH0).mono ?_
    rintro e t3 ⟨u, rfl, he, hb⟩
    obtain ⟨Ax0, nx0, cx0, zx0, Dx0, mx0, ex0, rfl, hf⟩ := cocycle_form (cocycle_rd he)
    clear hf
    have hbs := hb.size
    replace kw := kw.trans (hb.mono kw.size)
    replace bA0 := bA0.all hb
    replace sA0 := Nat.lt_of_lt_of_le sA0 hb.size
    replace Zt2 := Nat.le_trans Zt2 hb.size
    clear hb
    clear hbs
    have EX0 := he
    clear he
    have Ot2t3 := Zt2
    have SA0t3 := sA0
    have Kt3 := kw.size
    have Zt3 := Nat.le_refl t3.heap.size
    obtain ⟨X0, hX0⟩ : ∃ X, t3.heap.size = X := ⟨_, rfl⟩
    have bA0c0 := bA0.cell 0
    have bA0c1 := bA0.cell 1
    have bA0c2 := bA0.cell 2
    go_wp2_with fail
    clear bA0c0 bA0c1 bA0c2
    obtain ⟨t4, ht4⟩ : ∃ w5, t3.alloc (.cells #[.slice Ax0 nx0 cx0, .int .i64 zx0, .slice Dx0 mx0 ex0] 25) = w5 := ⟨_, rfl⟩
    have hb : Below t3.heap.size t3 t4 := by rw [← ht4]; exact (Below.refl _ _).alloc (Nat.le_refl _) _
    have bX0 : Blk t4 X0 25 #[.slice Ax0 nx0 cx0, .int .i64 zx0, .slice Dx0 mx0 ex0] := by rw [← ht4]; exact Blk.new' _ _ _ _ hX0
    rw [ht4]
    clear ht4
    replace kw := kw.trans (hb.mono kw.size)
    replace bA0 := bA0.all hb
    replace sA0 := Nat.lt_of_lt_of_le sA0 hb.size
    replace EX0 := cocycle_below EX0 hb
    replace Zt2 := Nat.le_trans Zt2 hb.size
    replace Zt3 := Nat.le_trans Zt3 hb.size
    clear hb
    have gX0 := bX0.lt
    have Ot2t4 := Zt2
    have Ot3t4 := Zt3
    have SA0t4 := sA0
    have GbX0t4 := bX0.lt
    have Kt4 := kw.size
    have Zt4 := Nat.le_refl t4.heap.size
    clear gX0
    have hcl := (implInv_c _ _ x0 (cocycle_rd EX0) SH0 a1 wa1)
    rw [HY0.out, HY1.out] at hcl
    have HCL := hide hcl
    clear hcl
    refine HCL.out.mono ?_
    rintro e t5 ⟨rfl, hb⟩
    clear HCL
    replace kw := kw.trans (hb.mono kw.size)
    replace bA0 := bA0.all hb
    replace sA0 := Nat.lt_of_lt_of_le sA0 hb.size
    replace bX0 := bX0.all hb
    replace EX0 := cocycle_below EX0 hb
    replace Zt2 := Nat.le_trans Zt2 hb.size
    replace Zt3 := Nat.le_trans Zt3 hb.size
    replace Zt4 := Nat.le_trans Zt4 hb.size
    clear hb
    have Ot2t5 := Zt2
    have Ot3t5 := Zt3
    have Ot4t5 := Zt4
    have SA0t5 := sA0
    have GbX0t5 := bX0.lt
    have Kt5 := kw.size
    have Zt5 := Nat.le_refl t5.heap.size
    have bA0c0 := bA0.cell 0
    have bA0c1 := bA0.cell 1
    have bA0c2 := bA0.cell 2
    have bX0c0 := bX0.cell 0
    have bX0c1 := bX0.cell 1
    have bX0c2 := bX0.cell 2
    go_wp2_with fail
    clear bA0c0 bA0c1 bA0c2 bX0c0 bX0c1 bX0c2
    have HXl := bX0.lt
    have HAl := bA0.lt
    have rA0 := bA0.cell 0
    have rX0 := bX0.cell 0
    have rA1 := bA0.cell 1
    have rX1 := bX0.cell 1
    have rA2 := bA0.cell 2
    have rX2 := bX0.cell 2
    refine wp_region_be [0, 1, 2, 3, 4] 5 t5.heap.size t5 (by kernel_rfl) (by kernel_rfl) (by kernel_rfl) (fun _ _ _ _ _ h => h) (Below.refl _ _) (fun wd hBe => ?_)
    repeat (first | (apply ord_tk rfl (by rfl) (by rfl) (by rfl); (focus (intro wx hSw; have r0 := (hSw.cell (p := ⟨w.heap.size, 0, none⟩) HAl).trans rA0; have r1 := (hSw.cell (p := ⟨w.heap.size, 1, none⟩) HAl).trans rA1; have r2 := (hSw.cell (p := ⟨w.heap.size, 2, none⟩) HAl).trans rA2; have s0 := (hSw.cell (p := ⟨X0, 0, none⟩) HXl).trans rX0; have s1 := (hSw.cell (p := ⟨X0, 1, none⟩) HXl).trans rX1; have s2 := (hSw.cell (p := ⟨X0, 2, none⟩) HXl).trans rX2; go_simp; (try with_reducible rfl))); (try simp only [Act.put, List.setIfInBounds_toArray, List.set_cons_zero, List.set_cons_succ])) | (apply ord_skip rfl (by rfl) (by rfl) (fun _ => hBe); (try simp only [Act.put, List.setIfInBounds_toArray, List.set_cons_zero, List.set_cons_succ])))
    refine ord_do rfl (by rfl) (by rfl) (fun K hK => ?_)
    go_simp
    have kq := kw.trans (hBe.mono kw.size)
    refine (cocycle_to _ _ x0 (cocycle_keep HA0 kq kq.size) SH0).mono ?_
    rintro e wq ⟨u, rfl, he, hb⟩
    obtain ⟨Ar0, nr0, cr0, zr0, Dr0, mr0, er0, rfl, hf⟩ := cocycle_form (cocycle_rd he)
    clear hf
    replace hBe := hBe.trans (hb.mono hBe.size)
    clear hb kq
    refine hK.out _ _ (fun _ => hBe) ?_
    (try simp only [Act.put, List.setIfInBounds_toArray, List.set_cons_zero, List.set_cons_succ])
    clear hK K
    repeat (first | (apply ord_tk rfl (by rfl) (by rfl) (by rfl); (focus (intro wx hSw; have r0 := (hSw.cell (p := ⟨w.heap.size, 0, none⟩) HAl).trans rA0; have r1 := (hSw.cell (p := ⟨w.heap.size, 1, none⟩) HAl).trans rA1; have r2 := (hSw.cell (p := ⟨w.heap.size, 2, none⟩) HAl).trans rA2; have s0 := (hSw.cell (p := ⟨X0, 0, none⟩) HXl).trans rX0; have s1 := (hSw.cell (p := ⟨X0, 1, none⟩) HXl).trans rX1; have s2 := (hSw.cell (p := ⟨X0, 2, none⟩) HXl).trans rX2; go_simp; (try with_reducible rfl))); (try simp only [Act.put, List.setIfInBounds_toArray, List.set_cons_zero, List.set_cons_succ])) | (apply ord_skip rfl (by rfl) (by rfl) (fun _ => hBe); (try simp only [Act.put, List.setIfInBounds_toArray, List.set_cons_zero, List.set_cons_succ])))
    refine ord_do rfl (by rfl) (by rfl) (fun K hK => ?_)
    go_simp
    refine (cocycle_eq _ _ _ x0 x0 (cocycle_rd (cocycle_below EX0 hBe)) (cocycle_rd he) SH0).mono ?_
    rintro e wd' ⟨rfl, hwd⟩
    replace hBe := hBe.trans (hwd.mono hBe.size)
    clear hwd
    refine hK.out _ _ (fun _ => hBe) ?_
    (try simp only [Act.put, List.setIfInBounds_toArray, List.set_cons_zero, List.set_cons_succ])
    clear hK K
    simp only [beq_self_eq_true]
    repeat (first | (apply ord_tk rfl (by rfl) (by rfl) (by rfl); (focus (intro wx hSw; have r0 := (hSw.cell (p := ⟨w.heap.size, 0, none⟩) HAl).trans rA0; have r1 := (hSw.cell (p := ⟨w.heap.size, 1, none⟩) HAl).trans rA1; have r2 := (hSw.cell (p := ⟨w.heap.size, 2, none⟩) HAl).trans rA2; have s0 := (hSw.cell (p := ⟨X0, 0, none⟩) HXl).trans rX0; have s1 := (hSw.cell (p := ⟨X0, 1, none⟩) HXl).trans rX1; have s2 := (hSw.cell (p := ⟨X0, 2, none⟩) HXl).trans rX2; go_simp; (try with_reducible rfl))); (try simp only [Act.put, List.setIfInBounds_toArray, List.set_cons_zero, List.set_cons_succ])) | (apply ord_skip rfl (by rfl) (by rfl) (fun _ => hBe); (try simp only [Act.put, List.setIfInBounds_toArray, List.set_cons_zero, List.set_cons_succ])))
    refine ord_nil ?_
    clear he HXl HAl rA0 rX0 rA1 rX1 rA2 rX2
    obtain ⟨t6, hnz⟩ : ∃ x, x = wd' := ⟨_, rfl⟩
    subst hnz
    have hb := hBe
    clear hBe
    replace kw := kw.trans (hb.mono kw.size)
    replace bA0 := bA0.all hb
    replace sA0 := Nat.lt_of_lt_of_le sA0 hb.size
    replace bX0 := bX0.all hb
    replace EX0 := cocycle_below EX0 hb
    replace Zt2 := Nat.le_trans Zt2 hb.size
    replace Zt3 := Nat.le_trans Zt3 hb.size
    replace Zt4 := Nat.le_trans Zt4 hb.size
    replace Zt5 := Nat.le_trans Zt5 hb.size
    clear hb
    go_wp2_with fail
    go_ret
    exact ⟨rfl, kw⟩
end Go.Proofs.Ythjlpgaoemdmkaa
