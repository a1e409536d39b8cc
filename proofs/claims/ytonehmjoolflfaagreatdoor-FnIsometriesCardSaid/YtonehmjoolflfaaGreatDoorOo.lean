
/- Multiples of an element, told by numbers; no program in sight. The walks of orderOfElement, l10Order. The walk of impl.tupleOf: a loop over slices.Backward that fills a list. -/
import Derived.Test.YtonehmjoolflfaaGreatDoorGrp
import Derived.Test.YtonehmjoolflfaaGreatDoorEa
import Derived.WalkLawsBesides
import Derived.Test.YtonehmjoolflfaaGreatDoorGa
import Derived.Test.YtonehmjoolflfaaGreatDoorSa
namespace Go.Proofs.YtonehmjoolflfaaGreatDoor
open Go Go.RowKit Grp Go.Shelf
set_option linter.unusedSimpArgs false
set_option linter.unusedVariables false
namespace Grp
/-- k times an element. -/
def mulR : List Int → Int → Int → Int
  | [], _, _ => 0
  | m :: r, k, x => (k * (x % m)) % m + m * mulR r k (x / m)
theorem mulR_dm {m : Int} {r : List Int} (h : Pos (m :: r)) (k x : Int) : mulR (m :: r) k x % m = (k * (x % m)) % m ∧ mulR (m :: r) k x / m = mulR r k (x / m) := by
  obtain ⟨d1, d2⟩ := em (x := k * (x % m)) h.head
  exact dm _ d1 d2
theorem mulR_succ {r : List Int} (h : Pos r) : ∀ k x, addR r (mulR r k x) x = mulR r (k + 1) x := by
  induction r with
  | nil => intro k x; rfl
  | cons m r ih =>
    intro k x
    obtain ⟨e1, e2⟩ := mulR_dm h k x
    show (mulR (m :: r) k x % m + x % m) % m + m * addR r (mulR (m :: r) k x / m) (x / m) = ((k + 1) * (x % m)) % m + m * mulR r (k + 1) (x / m)
    rw [e1, e2, ih h.tail, Int.add_mul, Int.one_mul, Int.emod_add_emod]
theorem mulR_one {r : List Int} (h : Pos r) : ∀ x, 0 ≤ x → x < prodL r → mulR r 1 x = x := by
  induction r with
  | nil => intro x h0 h1; simp [prodL] at h1; simp [mulR]; omega
  | cons m r ih =>
    intro x h0 h1
    have hm := h.head
    have q0 : 0 ≤ x / m := Int.ediv_nonneg h0 (by omega)
    have q1 : x / m < prodL r := Int.ediv_lt_of_lt_mul (by omega) (by rw [Int.mul_comm]; exact h1)
    simp only [mulR]
    rw [ih h.tail _ q0 q1, Int.one_mul, Int.emod_emod_of_dvd _ (Int.dvd_refl m)]
    exact Int.emod_add_mul_ediv x m
theorem mulR_dvd {r : List Int} {k : Int} : (∀ m ∈ r, m ∣ k) → ∀ x, mulR r k x = 0 := by
  induction r with
  | nil => intro _ x; rfl
  | cons m r ih =>
    intro hk x
    simp only [mulR]
    rw [ih (fun m' hm => hk m' (by simp [hm])), Int.emod_eq_zero_of_dvd (Int.dvd_trans (hk m (by simp)) (Int.dvd_mul_right k _))]
    simp
theorem dvd_prodL {r : List Int} : ∀ m ∈ r, m ∣ prodL r := by
  induction r with
  | nil => intro m hm; cases hm
  | cons a r ih =>
    intro m hm
    rcases List.mem_cons.1 hm with rfl | hm
    · exact Int.dvd_mul_right _ _
    · exact Int.dvd_trans (ih m hm) (Int.dvd_mul_left _ _)
theorem mulR_prod (r : List Int) (x : Int) : mulR r (prodL r) x = 0 := mulR_dvd dvd_prodL x
end Grp

/-- k times an element. -/
def Mu (os : List Int) (k x : Int) : Int := mulR os.reverse k x
theorem Mu_succ {os : List Int} (h : OkG os) (k x : Int) : Ar os (Mu os k x) x = Mu os (k + 1) x := mulR_succ h.posR k x
theorem Mu_one {os : List Int} (h : OkG os) {x : Int} (h0 : 0 ≤ x) (h1 : x < prodL os) : Mu os 1 x = x := mulR_one h.posR x h0 (by rwa [prodL_reverse])
theorem Mu_prod {os : List Int} (x : Int) : Mu os (prodL os) x = 0 := by unfold Mu; rw [← prodL_reverse]; exact mulR_prod _ x
theorem least {p : Nat → Prop} : ∀ n, p n → ∃ m, p m ∧ m ≤ n ∧ ∀ j, j < m → ¬ p j := by
  intro n
  induction n using Nat.strongRecOn with
  | _ n ih =>
    intro hn
    by_cases h : ∃ j, j < n ∧ p j
    · obtain ⟨j, hj, hp⟩ := h
      obtain ⟨m, h1, h2, h3⟩ := ih j hj hp
      exact ⟨m, h1, by omega, h3⟩
    · exact ⟨n, hn, Nat.le_refl _, fun j hj hp => h ⟨j, hj, hp⟩⟩
structure IsOrd (os : List Int) (x : Int) (r : Nat) : Prop where
  pos : 1 ≤ r
  le : r ≤ 16
  zero : Mu os r x = 0
  ne : ∀ j : Nat, 1 ≤ j → j < r → Mu os j x ≠ 0
theorem isOrd_ex {os : List Int} (h : OkG os) (x : Int) : ∃ r, IsOrd os x r := by
  have h2 := h.ge
  have h16 := h.p16
  obtain ⟨m, ⟨a, b⟩, c, d⟩ := least (p := fun k : Nat => 1 ≤ k ∧ Mu os k x = 0) (prodL os).toNat ⟨by omega, by rw [show ((prodL os).toNat : Int) = prodL os by omega]; exact Mu_prod x⟩
  exact ⟨m, a, by omega, b, fun j j1 j2 hz => d j j2 ⟨j1, hz⟩⟩
open Classical in
noncomputable def ordN (os : List Int) (x : Int) : Nat := if h : ∃ r, IsOrd os x r then Classical.choose h else 0
theorem ordN_spec {os : List Int} (h : OkG os) (x : Int) : IsOrd os x (ordN os x) := by
  have he := isOrd_ex h x
  unfold ordN
  rw [dif_pos he]
  exact Classical.choose_spec he

theorem l10Order_any (w : World) (A : Option Addr) (n c : Nat) (os : List Int) (x : Int) (h : Sl w w.heap.size A n c os) (hG : OkG os) (x0 : 0 ≤ x) (x1 : x < prodL os) :
    Calls Tryz.prog 99 #[.slice A n c, .int .i64 x] w (Re w (.int .i64 (ordN os x))) := by
  have hO := hide (ordN_spec hG x)
  have hp16 := hG.p16
  obtain ⟨r, hr⟩ : ∃ r, ordN os x = r := ⟨_, rfl⟩
  rw [hr] at hO ⊢
  clear hr
  have hr16 := hO.out.le
  have hr1 := hO.out.pos
  have hYR := hide (fun (j : Nat) (y : Int) (hj : 1 ≤ j) (hy : y = Mu os j x) => show 0 ≤ y ∧ y ≤ 1000000 by
    rw [hy]
    obtain ⟨i, rfl⟩ : ∃ i, j = i + 1 := ⟨j - 1, by omega⟩
    rw [show ((i + 1 : Nat) : Int) = (i : Int) + 1 by omega, ← Mu_succ hG]
    have := Ar_rng hG (Mu os i x) x
    omega)
  have hone := hide (Mu_one hG x0 x1)
  go_enter Tryz.func99, Tryz.ntmps99
  go_wp2_with fail
  go_loopw [5, 6] (fun k i wr => ∃ (j : Nat) (y : Int), 1 ≤ j ∧ j ≤ r ∧ k = .int .i64 j ∧ i = .int .i64 y ∧ y = Mu os j x ∧ Below w.heap.size w wr) (fun k _ _ => 17 - (intOf k).toNat)
  case atStart => exact ⟨1, x, by omega, hr1, rfl, rfl, hone.out.symm, Below.refl _ _⟩
  case round =>
    obtain ⟨j, y, hj1, hjr, rfl, rfl, hy, hBe⟩ := hrel
    have hyr : 0 ≤ y ∧ y ≤ 1000000 := hYR.out j y hj1 hy
    have hY := hide hy
    clear hy
    by_cases hlt : j < r
    · have hne := hO.out.ne j hj1 hlt
      rw [← hY.out] at hne
      have hyb : (y != 0) = true := by simpa using hne
      clear hne
      go_wp2_with fail
      refine (l10Add_any _ _ _ _ _ _ _ _ (h.below hBe) hG (by omega) (by omega) (by omega) (by omega)).mono ?_
      rintro e w2 ⟨rfl, hb2⟩
      obtain ⟨dm, rfl⟩ := hb2
      go_wp2_with fail
      go_roundw
      case rel => exact ⟨j + 1, Ar os y x, by omega, by omega, by go_num, rfl, by rw [hY.out, Mu_succ hG]; rfl, below_drewN hBe _⟩
      case measure => simp [intOf] <;> omega
    · obtain rfl : j = r := by omega
      have hz : y = 0 := by rw [hY.out]; exact hO.out.zero
      subst hz
      go_wp2_with fail
      go_ret
      exact ⟨rfl, hBe⟩
theorem orderOf_any (w : World) (A : Option Addr) (n c : Nat) (os : List Int) (D : Int) (A' : Option Addr) (n' c' : Nat) (x : Int) (h : Sl w w.heap.size A n c os) (hG : OkG os) (x0 : 0 ≤ x) (x1 : x < prodL os) :
    Calls Tryz.prog 31 #[.agg #[.slice A n c, .int .i64 D, .slice A' n' c'], .int .i64 x] w (Re w (.int .i64 (ordN os x))) := by
  have hO := hide (ordN_spec hG x)
  have hp16 := hG.p16
  obtain ⟨r, hr⟩ : ∃ r, ordN os x = r := ⟨_, rfl⟩
  rw [hr] at hO ⊢
  clear hr
  have hr16 := hO.out.le
  have hr1 := hO.out.pos
  have hYR := hide (fun (j : Nat) (y : Int) (hj : 1 ≤ j) (hy : y = Mu os j x) => show 0 ≤ y ∧ y ≤ 1000000 by
    rw [hy]
    obtain ⟨i, rfl⟩ : ∃ i, j = i + 1 := ⟨j - 1, by omega⟩
    rw [show ((i + 1 : Nat) : Int) = (i : Int) + 1 by omega, ← Mu_succ hG]
    have := Ar_rng hG (Mu os i x) x
    omega)
  have hone := hide (Mu_one hG x0 x1)
  go_enter Tryz.func31, Tryz.ntmps31
  go_wp2_with fail
  obtain ⟨W, hW⟩ : ∃ W, w.alloc (.cells #[.slice A n c, .int .i64 D, .slice A' n' c'] 26) = W := ⟨_, rfl⟩
  have hbW : Below w.heap.size w W := by rw [← hW]; exact (by repeat (first | assumption | exact Below.refl _ _ | apply below_drewN | apply Below.drew | apply Below.alloc | apply Below.setCell | omega | (focus (simp; done)) | (focus (simp; omega))))
  have hszW : w.heap.size < W.heap.size := by rw [← hW]; simp
  have q0 : W.cell? ⟨w.heap.size, 0, none⟩ = some (.slice A n c) := by rw [← hW]; exact (Blk.new _ _ _).cell 0
  have q1 : W.cell? ⟨w.heap.size, 1, none⟩ = some (.int .i64 D) := by rw [← hW]; exact (Blk.new _ _ _).cell 1
  have q2 : W.cell? ⟨w.heap.size, 2, none⟩ = some (.slice A' n' c') := by rw [← hW]; exact (Blk.new _ _ _).cell 2
  rw [hW]
  clear hW
  have hs := (h.below hbW).more (Nat.le_of_lt hszW)
  have hsl : ∀ wd, Below W.heap.size W wd → Sl wd wd.heap.size A n c os := fun wd h => (hs.below h).more h.size
  go_loopw [5, 6] (fun k i wr => ∃ (j : Nat) (y : Int), 1 ≤ j ∧ j ≤ r ∧ k = .int .i64 j ∧ i = .int .i64 y ∧ y = Mu os j x ∧ Below W.heap.size W wr) (fun k _ _ => 17 - (intOf k).toNat)
  case atStart => exact ⟨1, x, by omega, hr1, rfl, rfl, hone.out.symm, Below.refl _ _⟩
  case round =>
    obtain ⟨j, y, hj1, hjr, rfl, rfl, hy, hBe⟩ := hrel
    have hyr : 0 ≤ y ∧ y ≤ 1000000 := hYR.out j y hj1 hy
    have hY := hide hy
    clear hy
    by_cases hlt : j < r
    · have hne := hO.out.ne j hj1 hlt
      rw [← hY.out] at hne
      have hyb : (y != 0) = true := by simpa using hne
      clear hne
      have r0 := (hBe.cell (p := ⟨w.heap.size, 0, none⟩) hszW).trans q0
      have r1 := (hBe.cell (p := ⟨w.heap.size, 1, none⟩) hszW).trans q1
      have r2 := (hBe.cell (p := ⟨w.heap.size, 2, none⟩) hszW).trans q2
      go_wp2_with fail
      clear r0 r1 r2
      refine (plus_any _ _ _ _ _ _ _ _ _ (hsl _ hBe) hG (by omega) (by omega) (by omega) (by omega)).mono ?_
      rintro e w2 ⟨rfl, hb2⟩
      replace hBe := hBe.trans (hb2.mono hBe.size)
      go_wp2_with fail
      go_roundw
      case rel => exact ⟨j + 1, Ar os y x, by omega, by omega, by go_num, rfl, by rw [hY.out, Mu_succ hG]; rfl, hBe⟩
      case measure => simp [intOf] <;> omega
    · obtain rfl : j = r := by omega
      have hz : y = 0 := by rw [hY.out]; exact hO.out.zero
      subst hz
      go_wp2_with fail
      go_ret
      exact ⟨rfl, hbW.trans (hBe.mono (Nat.le_of_lt hszW))⟩
attribute [local go_sem] Oper.semAt_some

section
variable {P : Program} {ops : Array Oper} {Q : Exit → Act → World → Prop} {md : Region.Mode} {S : Bool → World → Prop} {z t : Nat} {b : Bool}
theorem ordV_tk {i : Nat} {l : List Nat} {a : Act} {w : World} {o : Oper} {v : Value} {d : Nat} (ho : ops[i]? = some o) (hd : o.dst = some d) (ht : (takes z o i && i != t) = true)
    (hw : Region.wanted o (yielded ops a.tmps) = true) (hy : ∀ w, Sx md ops S t i w → (execOp a.eval o).run P w = .ok (.value v) w) (h : OrdV P md ops Q S z t b l (a.put (some d) v) w) : OrdV P md ops Q S z t b (i :: l) a w := ordV_take ho ht hw hy (hd ▸ h)
theorem ordV_dd {i : Nat} {l : List Nat} {a : Act} {w w' : World} {o : Oper} {v : Value} {d : Nat} (ho : ops[i]? = some o) (hd : o.dst = some d) (ht : takes z o i = false) (hw : Region.wanted o (yielded ops a.tmps) = true)
    (hr : (execOp a.eval o).run P w = .ok (.value v) w') (hS : i < z → S (b || i == t) w') (h : OrdV P md ops Q S z t (b || i == t) l (a.put (some d) v) w') : OrdV P md ops Q S z t b (i :: l) a w := ordV_do ho ht hw hr hS (hd ▸ h)
end
/-- One round: the digit is laid, the rest is divided. -/
def tupT (zs : List Int) {n : Nat} (s : Array Value × Int) (j : {j : Nat // j < n}) : Array Value × Int := (s.1.setIfInBounds j.1 (.int .i64 (s.2 % gi zs j.1)), s.2 / gi zs j.1)
def foldT (zs : List Int) {n : Nat} (cs : Array Value) (x : Int) (pre : List {j : Nat // j < n}) : Array Value × Int := pre.foldl (tupT zs) (cs, x)
theorem foldT_snoc (zs : List Int) {n : Nat} (cs : Array Value) (x : Int) (pre : List {j : Nat // j < n}) (j : {j : Nat // j < n}) : foldT zs cs x (pre ++ [j]) = tupT zs (foldT zs cs x pre) j := by simp [foldT]
/-- The index of a round. -/
def ixT (n : Nat) (h : 0 < n) (k : Nat) : {j : Nat // j < n} := ⟨n - 1 - k, by omega⟩
theorem foldT_done {zs : List Int} (hG : OkG zs) {x : Int} (hx : 0 ≤ x) (cs : Array Value) (hcs : cs.size = zs.length) (h : 0 < zs.length) : ∀ k, k ≤ zs.length →
    FilledT (foldT zs cs x (upTo (ixT zs.length h) k)).1 zs.length (zs.length - k) (Dg zs x) ∧ (digR (zs.take (zs.length - k)).reverse (foldT zs cs x (upTo (ixT zs.length h) k)).2).reverse = (Dg zs x).take (zs.length - k) ∧
    0 ≤ (foldT zs cs x (upTo (ixT zs.length h) k)).2 ∧ (foldT zs cs x (upTo (ixT zs.length h) k)).2 ≤ x := by
  intro k
  induction k with
  | zero =>
    intro _
    refine ⟨⟨hcs, fun j hj hjn => absurd hj (by omega)⟩, ?_, hx, Int.le_refl _⟩
    show (digR (zs.take (zs.length - 0)).reverse x).reverse = _
    rw [Nat.sub_zero, List.take_length, List.take_of_length_le (by rw [Dg_length]; omega)]; rfl
  | succ k ih =>
    intro hk
    obtain ⟨hF, hD, p0, p1⟩ := ih (by omega)
    rw [upTo_succ, foldT_snoc]
    obtain ⟨s, hs⟩ : ∃ s, foldT zs cs x (upTo (ixT zs.length h) k) = s := ⟨_, rfl⟩
    rw [hs] at hF hD p0 p1 ⊢
    obtain ⟨j, hj⟩ : ∃ j, zs.length - (k + 1) = j := ⟨_, rfl⟩
    have hj1 : zs.length - k = j + 1 := by omega
    have hji : (ixT zs.length h k).1 = j := by show zs.length - 1 - k = j; omega
    rw [hj1] at hF hD
    rw [hj]
    have hm2 : 2 ≤ gi zs j := hG.m2 _ (gi_mem (by omega))
    have hst : (digR (zs.take j).reverse (s.2 / gi zs j)).reverse = (Dg zs x).take j ∧ s.2 % gi zs j = gi (Dg zs x) j := by
      have e := hD
      rw [take_rev (by omega)] at e
      have hl := Dg_length zs x
      rw [take_gi (by omega), digR, List.reverse_cons] at e
      have := List.append_inj' e rfl
      exact ⟨this.1, by simpa using this.2⟩
    unfold tupT
    rw [hji]
    refine ⟨hF.set_ (by omega) hst.2, hst.1, Int.ediv_nonneg p0 (by omega), Int.le_trans (Int.ediv_le_self _ p0) p1⟩

/-- Between two rounds. -/
structure TupI (w : World) (A : Option Addr) (n c : Nat) (zs : List Int) (cs0 : Array Value) (x : Int) (pre : List {j : Nat // j < n}) (W : World) : Prop where
  vo : Blk W w.heap.size 24 #[.slice A n c]
  vx : Blk W (w.heap.size + 1) 2 #[.int .i64 (foldT zs cs0 x pre).2]
  vc : Blk W (w.heap.size + 1 + 1) 2 (foldT zs cs0 x pre).1
  vt : Blk W (w.heap.size + 1 + 1 + 1) 24 #[.slice (some ⟨w.heap.size + 1 + 1, 0, none⟩) n n]
  sz : (foldT zs cs0 x pre).1.size = n
  p0 : 0 ≤ (foldT zs cs0 x pre).2
  p1 : (foldT zs cs0 x pre).2 ≤ 1000000
  below : Below w.heap.size w W
theorem TupI.own {w : World} {A : Option Addr} {n c : Nat} {zs : List Int} {cs0 : Array Value} {x : Int} {D : Nat} (hD : w.heap.size + 4 ≤ D) : OwnFrom D (TupI w A n c zs cs0 x) := fun s A B row hs hg hr => by
  have h : ∀ g, g < w.heap.size + 4 → row ≠ some g := fun g hg' e => by have := (hr g e).1; omega
  exact ⟨hs.vo.grown hg (h _ (by omega)), hs.vx.grown hg (h _ (by omega)), hs.vc.grown hg (h _ (by omega)), hs.vt.grown hg (h _ (by omega)), hs.sz, hs.p0, hs.p1,
    hs.below.grown hg hs.below.size (fun k e => by have := (hr k e).1; omega)⟩

set_option maxRecDepth 100000 in
set_option maxHeartbeats 4000000 in
theorem tupleOf_in (F : Fence) (N : Nat) (h1 : F.fn 94) (h2 : F.fn 93) (h3 : F.fn 111) (hro : F.round = none) (hN : 3 ≤ N) (A : Option Addr) (c : Nat) (zs : List Int) (x : Int) (hG : OkG zs) (x0 : 0 ≤ x) (x1 : x ≤ 1000000) (w : World) (h : Sl w w.heap.size A zs.length c zs) :
    CallsIn F N Tryz.prog 94 #[.slice A zs.length c, .int .i64 x] w (Mk w (Dg zs x)) := by
  obtain ⟨i0, hi0, hz0, hz1, hz2⟩ := info_parts int_info
  have h4 := hG.l4
  have hl1 : 0 < zs.length := hG.l1
  have hn1 : 1 ≤ N := by omega
  have hmk := fun W => run_make (P := Tryz.prog) (w := W) 24 2 i0 (.int .i64 0) Tryz.underlying24 hi0 hz0 .i64 .i64 zs.length zs.length (by omega) (by omega) (by rw [hz2]; omega) (by omega)
  simp only [hz1, Int.toNat_natCast, Nat.mul_one] at hmk
  obtain ⟨b, off, rfl, hb, hc⟩ := h.at_ hl1
  have hcH := hide hc
  clear hc
  obtain ⟨cs0, hcs0⟩ : ∃ cs0, madeCells #[Value.int .i64 0] zs.length = cs0 := ⟨_, rfl⟩
  have hsz0 : cs0.size = zs.length := by rw [← hcs0]; exact size_madeCells _ _
  have hS0 := hide hsz0
  clear hsz0
  refine callsIn_of_wp_marks Tryz.func94 rfl h1 ?_ hro
  simp only [Tryz.ntmps94, List.size_toArray, List.length_cons, List.length_nil, Nat.reduceAdd, Nat.reduceSub, Array.replicate_succ, Array.replicate_zero, List.push_toArray, List.append_toArray, List.nil_append, List.cons_append]
  gi_wp2_with (gi_at_call 93; refine (bw_in F (N - 1) h2 hro _ _ _ _).mono ?_; rintro e w' ⟨rfl, rfl⟩)
  have hB0 : Below w.heap.size w (((((w.alloc (.cells #[.slice (some ⟨b, off, none⟩) zs.length c] 24)).alloc (.cells #[.int .i64 x] 2)).alloc (.cells cs0 2)).alloc (.cells #[.slice (some ⟨w.heap.size + 1 + 1, 0, none⟩) zs.length zs.length] 24)).alloc (.cells #[.slice (some ⟨b, off, none⟩) zs.length c] 24)) := (by repeat (first | assumption | exact Below.refl _ _ | apply below_drewN | apply Below.drew | apply Below.alloc | apply Below.setCell | omega | (focus (simp; done)) | (focus (simp; omega))))
  refine wpIn_rangeFunc_ownG hro hn1 (gf := 111) (lb := #[.pointer (some ⟨w.heap.size + 1 + 1 + 1 + 1, 0, none⟩)]) rfl h3 (enters_of Tryz.func111 (by kernel_rfl) rfl)
    (bw_stops (fun j : {j : Nat // j < zs.length} => #[.int .i64 (j.1 : Int), .int .i64 (gi zs j.1)]) (ixT zs.length hl1) F (N - 1) h3 hro (by omega) (w.heap.size + 1 + 1 + 1 + 1) w.heap.size zs.length c (some ⟨b, off, none⟩) zs (by omega) (fun k hk => by simp only [ixT]; rw [show ((zs.length - 1 - k : Nat) : Int) = (zs.length : Int) - 1 - k by omega]) _ (by simp) (by simp; omega) (by simp [World.cell?_alloc_at]) (h.below hB0))
    KpB.trans (KpB.obj (by simp; omega)) (Below.refl _ _) (fun _ => rfl)
    (TupI w (some ⟨b, off, none⟩) zs.length c zs cs0 x) (fun _ _ _ => False) (TupI.own (by simp)) (fun _ _ _ _ _ hs _ _ => hs)
    ⟨?v1, ?v2, ?v3, ?v4, hS0.out, x0, x1, hB0⟩
    ?a1 ?assign ?body ?done ?stop
  case v1 => exact ((((Blk.new _ _ _).alloc _).alloc _).alloc _).alloc _
  case v2 => exact (((Blk.new' _ _ _ _ (by simp)).alloc _).alloc _).alloc _
  case v3 => exact ((Blk.new' _ _ _ _ (by simp)).alloc _).alloc _
  case v4 => exact (Blk.new' _ _ _ _ (by simp)).alloc _
  case assign =>
    intro l x W K hK
    gi_wp2
    exact hK
  case body =>
    rintro l pre ⟨j, hj⟩ W ⟨hvo, hvx, hvc, hvt, sz, q0, q1, hB⟩ _
    obtain ⟨s1, hs1⟩ : ∃ s1, foldT zs cs0 x pre = s1 := ⟨_, rfl⟩
    have HX := hide hs1
    rw [hs1] at hvx hvc sz q0 q1
    clear hs1
    obtain ⟨cs, p⟩ := s1
    simp only at hvx hvc sz q0 q1
    have cj := (hB.cell (p := ⟨b, off + j, none⟩) hb).trans (hcH.out j hj)
    have hm2 : 2 ≤ gi zs j := hG.m2 _ (gi_mem hj)
    have hm16 : gi zs j ≤ 16 := hG.m16 _ (gi_mem hj)
    obtain ⟨m, hm⟩ : ∃ m, gi zs j = m := ⟨_, rfl⟩
    rw [hm] at cj hm2 hm16
    have HM := hide hm
    clear hm
    obtain ⟨u, hu⟩ : ∃ u, cs[j]? = some u := ⟨cs[j]'(by omega), Array.getElem?_eq_getElem _⟩
    have cu := (hvc.cell j).trans hu
    have fu := hvc.frozen j
    have co := hvo.cell 0
    have cx := hvx.cell 0
    have fx := hvx.frozen 0
    have ct := hvt.cell 0
    have HU := hide hu
    clear hu
    have t0 : ¬ m = 0 := by omega
    obtain ⟨a1, a2, a3, a4, a5, a6, a7⟩ := digit_facts (show 1 ≤ m by omega) q0 q1
    have i0 : 0 ≤ (j : Int) := by omega
    have i1 : (j : Int) < (zs.length : Int) := by omega
    have hs : foldT zs cs0 x (pre ++ [⟨j, hj⟩]) = (cs.setIfInBounds j (.int .i64 (p % m)), p / m) := by rw [foldT_snoc, HX.out]; unfold tupT; simp only; rw [HM.out]
    have HS := hide hs
    clear hs
    obtain ⟨d, hd⟩ : ∃ d, p % m = d := ⟨_, rfl⟩
    obtain ⟨r, hr⟩ : ∃ r, p / m = r := ⟨_, rfl⟩
    rw [hd] at a1 a3 a4 HS
    rw [hr] at a2 a5 a6 a7 HS
    clear hd hr
    have hbw : b ≠ w.heap.size + 1 + 1 := by omega
    gi_wp2
    refine wpIn_region_ord [0, 1, 2, 3, 4, 5, 6, 7, 8, 9] 8 1000 (fun _ w' => w'.cell? ⟨w.heap.size + 1 + 1 + 1, 0, none⟩ = some (.slice (some ⟨w.heap.size + 1 + 1, 0, none⟩) zs.length zs.length) ∧ w'.cell? ⟨w.heap.size + 1, 0, none⟩ = some (.int .i64 p) ∧ w'.cell? ⟨w.heap.size, 0, none⟩ = some (.slice (some ⟨b, off, none⟩) zs.length c) ∧ w'.cell? ⟨b, off + j, none⟩ = some (.int .i64 m)) (by kernel_rfl) (by kernel_rfl) (by kernel_rfl) (by kernel_rfl) (by kernel_rfl) ⟨?_, ?_, ?_, ?_⟩ ?_
    any_goals (go_simp; done)
    repeat (apply ordV_tk rfl (by rfl) (by rfl) (by rfl); (focus (rintro w ⟨bb, hbb, hSw⟩; (try have hbb' := hbb (by decide +kernel)); (try subst hbb'); clear hbb; (try dsimp only at hSw); (try simp only [true_implies, forall_const] at hSw); go_simp; (try with_reducible rfl))); (try simp only [Act.put, List.setIfInBounds_toArray, List.set_cons_zero, List.set_cons_succ]))
    refine ordV_dd rfl (by rfl) (by rfl) (by rfl) (by go_simp; exact ⟨rfl, rfl⟩) (fun h => absurd h (by omega)) ?_
    (try simp only [Act.put, List.setIfInBounds_toArray, List.set_cons_zero, List.set_cons_succ])
    refine ordV_store rfl (by rfl) (by rfl) (by go_simp; rfl) (fun h => absurd h (by omega)) ?_
    (try simp only [Act.put, List.setIfInBounds_toArray, List.set_cons_zero, List.set_cons_succ])
    refine ordV_nil ?_
    gi_wp2
    refine wpIn_region_ord [0, 1, 2, 3, 4, 5, 6] 6 1000 (fun _ w' => w'.cell? ⟨w.heap.size + 1, 0, none⟩ = some (.int .i64 p) ∧ w'.cell? ⟨w.heap.size, 0, none⟩ = some (.slice (some ⟨b, off, none⟩) zs.length c) ∧ w'.cell? ⟨b, off + j, none⟩ = some (.int .i64 m)) (by kernel_rfl) (by kernel_rfl) (by kernel_rfl) (by kernel_rfl) (by kernel_rfl) ⟨?_, ?_, ?_⟩ ?_
    any_goals (go_simp; done)
    repeat (apply ordV_tk rfl (by rfl) (by rfl) (by rfl); (focus (rintro w ⟨bb, hbb, hSw⟩; (try have hbb' := hbb (by decide +kernel)); (try subst hbb'); clear hbb; (try dsimp only at hSw); (try simp only [true_implies, forall_const] at hSw); go_simp; (try with_reducible rfl))); (try simp only [Act.put, List.setIfInBounds_toArray, List.set_cons_zero, List.set_cons_succ]))
    refine ordV_store rfl (by rfl) (by rfl) (by go_simp; rfl) (fun h => absurd h (by omega)) ?_
    (try simp only [Act.put, List.setIfInBounds_toArray, List.set_cons_zero, List.set_cons_succ])
    refine ordV_nil ?_
    gi_wp2
    refine ⟨KeepsOthers.from ?kt _, ⟨(((Below.refl _ W).setCell ?n1 _).setCell ?n2 _).drew.drew, fun v hv => ?kb⟩, ⟨?x1, ?x2, ?x3, ?x4, ?x5, ?x6, ?x7, (((hB.setCell ?n1 _).setCell ?n2 _).drew.drew)⟩⟩
    case kt => exact ((KeepsOthers.setCell _ _ _).trans (KeepsOthers.setCell _ _ _)).trans ((KeepsOthers.drew _).trans (KeepsOthers.drew _))
    all_goals first | (show w.heap.size ≤ _; dsimp only; omega) | skip
    case kb => go_simp
    case x1 => exact (hvo.far (by simp <;> omega) _).far (by simp <;> omega) _
    case x2 => rw [HS.out]; exact (hvx.far (by simp <;> omega) _).store 0 _
    case x3 => rw [HS.out]; exact (hvc.store j _).far (by simp <;> omega) _
    case x4 => exact (hvt.far (by simp <;> omega) _).far (by simp <;> omega) _
    case x5 => rw [HS.out]; simp [sz]
    case x6 => rw [HS.out]; exact a5
    case x7 => rw [HS.out]; exact a6
  case done =>
    rintro D ys W hD rfl hs hK
    have ct := hs.vt.cell 0
    obtain ⟨hF, -, -, -⟩ := foldT_done hG x0 cs0 hS0.out hl1 zs.length (Nat.le_refl _)
    rw [Nat.sub_self] at hF
    have HF := hide hF
    clear hF
    gi_wp2
    refine ⟨by simp, .inl ⟨_, _, rfl, run_takeDeferred hK, ?_⟩⟩
    refine ⟨_, results_tmp rfl _ _ _, ?_⟩
    have hlD := Dg_length zs x
    have hkeep := belowK_b (w := ((((w.alloc (.cells #[.slice (some ⟨b, off, none⟩) zs.length c] 24)).alloc (.cells #[.int .i64 x] 2)).alloc (.cells cs0 2)).alloc (.cells #[.slice (some ⟨w.heap.size + 1 + 1, 0, none⟩) zs.length zs.length] 24)).alloc (.cells #[.slice (some ⟨b, off, none⟩) zs.length c] 24)) (Nat.le_refl _) W D _ (.deferred none) hD hK rfl rfl
    refine ⟨.slice (some ⟨w.heap.size + 1 + 1, 0, none⟩) zs.length zs.length, rfl, ?_, hs.below.trans (hkeep.mono (by simp <;> omega))⟩
    refine ⟨by simp [hlD], .inr ⟨w.heap.size + 1 + 1, zs.length, _, by rw [hlD], by omega, (hkeep.block _ (by simp <;> omega)).trans hs.vc, by omega, by unfold maxLen; omega, by rw [hs.sz, Nat.mul_one], ?_⟩⟩
    rw [hlD, Nat.mul_one, HF.out.all.done hlD, List.take_of_length_le (by simp [hlD])]
  case stop =>
    rintro D c pre W _ _ h _
    exact h.elim
theorem tupleOf_any (w : World) (A : Option Addr) (n c : Nat) (zs : List Int) (x : Int) (hG : OkG zs) (x0 : 0 ≤ x) (x1 : x ≤ 1000000) (h : Sl w w.heap.size A n c zs) :
    Calls Tryz.prog 94 #[.slice A n c, .int .i64 x] w (Mk w (Dg zs x)) := by
  obtain rfl := h.len
  exact callsIn_wide.1 (tupleOf_in Fence.wide 3 trivial trivial trivial rfl (Nat.le_refl _) A c zs x hG x0 x1 w h)
end Go.Proofs.YtonehmjoolflfaaGreatDoor
