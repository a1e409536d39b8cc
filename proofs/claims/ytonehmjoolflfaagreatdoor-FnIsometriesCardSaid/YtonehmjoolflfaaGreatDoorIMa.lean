
/- Isometries, plain: images of elements, what makes an isometry, the list of all isometries in order. Isometries, plain: the images of generators tell a homomorphism, and homomorphisms that agree at generators agree. Isometries, plain: they are the isomorphisms that keep the values, and there are as many back as forth. -/
import Derived.Test.YtonehmjoolflfaaGreatDoorOo
import Derived.Test.YtonehmjoolflfaaGreatDoorEa
namespace Go.Proofs.YtonehmjoolflfaaGreatDoor
open Go Go.RowKit Grp
set_option linter.unusedSimpArgs false
set_option linter.unusedVariables false
/-- k times an element, put to another. -/
def addT (ps : List Int) (y : Int) : Nat → Int → Int
  | 0, o => o
  | k + 1, o => Ar ps (addT ps y k o) y
/-- The image of a tuple. -/
def imT (ps : List Int) (tu im : List Int) : Nat → Int
  | 0 => 0
  | i + 1 => addT ps (gi im i) (gi tu i).toNat (imT ps tu im i)
/-- The image of an element. -/
def imF (os ps im : List Int) (x : Int) : Int := imT ps (Dg os x) im os.length
theorem addT_rng {ps : List Int} (hG : OkG ps) (y : Int) : ∀ k {o : Int}, 0 ≤ o → o < prodL ps → 0 ≤ addT ps y k o ∧ addT ps y k o < prodL ps := by
  intro k
  induction k with
  | zero => intro o h0 h1; exact ⟨h0, h1⟩
  | succ k ih => intro o h0 h1; exact Ar_rng hG _ _
theorem imT_rng {ps : List Int} (hG : OkG ps) (tu im : List Int) : ∀ i, 0 ≤ imT ps tu im i ∧ imT ps tu im i < prodL ps := by
  intro i
  induction i with
  | zero => exact ⟨Int.le_refl _, by have := prodL_pos hG.pos; show (0 : Int) < _; omega⟩
  | succ i ih => exact addT_rng hG _ _ ih.1 ih.2
theorem imF_rng {os ps : List Int} (hG : OkG ps) (im : List Int) (x : Int) : 0 ≤ imF os ps im x ∧ imF os ps im x < prodL ps := imT_rng hG _ _ _
/-- Values alike, with moduli D and E. -/
def alB (D E a b : Int) : Bool := a * E == b * D
/-- Two metrics. -/
structure Two where
  os : List Int
  D : Int
  vs : List Int
  ps : List Int
  E : Int
  us : List Int
namespace Two
variable (T : Two)
def N : Nat := T.us.length
def im (pre : List Int) (x : Nat) : Int := imF T.os T.ps pre x
def al (x y : Int) : Bool := alB T.D T.E (gi T.vs x.toNat) (gi T.us y.toNat)
/-- The images of the first elements. -/
def ims (pre : List Int) (k : Nat) : List Int := (List.range k).map fun x => T.im pre x
/-- The first k elements go well. -/
def goes (pre : List Int) (k : Nat) : Bool := (List.range k).all fun x => T.al x (T.im pre x) && !hasB (T.ims pre x) (T.im pre x)
/-- An isometry. -/
def iso (pre : List Int) : Bool := T.goes pre T.N
/-- The generator of a place. -/
def gen (i : Nat) : Int := prodL (T.os.drop (i + 1))
/-- May y be the image of the generator i? -/
noncomputable def cand (i : Nat) (y : Nat) : Bool := decide (ordN T.ps y = gi T.os i) && T.al (T.gen i) y
/-- The isometries that begin with a list, k images more to come. -/
noncomputable def isos : Nat → List Int → List (List Int)
  | 0, pre => if T.iso pre = true then [pre] else []
  | k + 1, pre => ((List.range T.N).filter fun y => T.cand (T.os.length - (k + 1)) y).flatMap fun (y : Nat) => isos k (pre ++ [(y : Int)])
/-- Of those with a further image below j. -/
noncomputable def part (k : Nat) (pre : List Int) (j : Nat) : List (List Int) := ((List.range j).filter fun y => T.cand (T.os.length - (k + 1)) y).flatMap fun (y : Nat) => T.isos k (pre ++ [(y : Int)])
theorem isos_part (k : Nat) (pre : List Int) : T.isos (k + 1) pre = T.part k pre T.N := rfl
theorem part_zero (k : Nat) (pre : List Int) : T.part k pre 0 = [] := rfl
theorem part_no {k j : Nat} {pre : List Int} (h : T.cand (T.os.length - (k + 1)) j = false) : T.part k pre (j + 1) = T.part k pre j := by
  unfold part
  rw [List.range_succ, List.filter_append]
  simp [h]
theorem part_yes {k j : Nat} {pre : List Int} (h : T.cand (T.os.length - (k + 1)) j = true) : T.part k pre (j + 1) = T.part k pre j ++ T.isos k (pre ++ [(j : Int)]) := by
  unfold part
  rw [List.range_succ, List.filter_append, List.flatMap_append]
  simp [h]
theorem goes_succ (pre : List Int) (k : Nat) : T.goes pre (k + 1) = (T.goes pre k && (T.al k (T.im pre k) && !hasB (T.ims pre k) (T.im pre k))) := by
  unfold goes
  rw [List.range_succ, List.all_append]
  simp
theorem goes_no {pre : List Int} {j k : Nat} (hj : j < k) (h : (T.al j (T.im pre j) && !hasB (T.ims pre j) (T.im pre j)) = false) : T.goes pre k = false := by
  refine Bool.eq_false_iff.2 fun ha => ?_
  have := List.all_eq_true.1 ha j (List.mem_range.2 hj)
  rw [h] at this; cases this
theorem ims_succ (pre : List Int) (k : Nat) : T.ims pre (k + 1) = T.ims pre k ++ [T.im pre k] := by
  unfold ims; rw [List.range_succ, List.map_append]; rfl
theorem ims_len (pre : List Int) (k : Nat) : (T.ims pre k).length = k := by simp [ims]
theorem ims_at {pre : List Int} {j k : Nat} (h : j < k) : gi (T.ims pre k) j = T.im pre j := by
  unfold gi ims; rw [List.getD_eq_getElem?_getD, List.getElem?_map, List.getElem?_range h]; rfl
theorem ims_take {pre : List Int} {j k : Nat} (h : j ≤ k) : (T.ims pre k).take j = T.ims pre j := by
  unfold ims; rw [← List.map_take, List.take_range, Nat.min_eq_left h]
/-- The list of all. -/
noncomputable def all : List (List Int) := if T.vs.length = T.us.length then T.isos T.os.length [] else []
theorem isos_len : ∀ k pre, pre.length + k = T.os.length → ∀ x ∈ T.isos k pre, x.length = T.os.length := by
  intro k
  induction k with
  | zero =>
    intro pre h x hx
    unfold isos at hx
    split at hx
    · rw [List.mem_singleton.1 hx]; omega
    · cases hx
  | succ k ih =>
    intro pre h x hx
    unfold isos at hx
    obtain ⟨y, -, hx⟩ := List.mem_flatMap.1 hx
    exact ih (pre ++ [(y : Int)]) (by simp; omega) x hx
theorem flat_le {β : Type} (c : Nat) (f : Nat → List β) : ∀ l : List Nat, (∀ y ∈ l, (f y).length ≤ c) → (l.flatMap f).length ≤ l.length * c := by
  intro l
  induction l with
  | nil => intro _; simp
  | cons a r ih =>
    intro h
    have h1 := h a (by simp)
    have h2 := ih fun y hy => h y (by simp [hy])
    rw [List.flatMap_cons, List.length_append, List.length_cons, Nat.succ_mul]
    omega
theorem isos_many (hN : T.N ≤ 16) : ∀ k pre, (T.isos k pre).length ≤ 16 ^ k := by
  intro k
  induction k with
  | zero => intro pre; unfold isos; split <;> simp
  | succ k ih =>
    intro pre
    unfold isos
    refine Nat.le_trans (flat_le (16 ^ k) _ _ fun y _ => ih _) ?_
    rw [Nat.pow_succ, Nat.mul_comm]
    refine Nat.mul_le_mul_left _ (Nat.le_trans (List.length_filter_le _ _) ?_)
    simpa using hN
end Two
/-- The program's values: with D c = E d = q. -/
theorem al_prog {D E c d a b q : Int} (hq : 0 < q) (h1 : D * c = q) (h2 : E * d = q) : (a * c == b * d) = (a * E == b * D) := by
  have hD : D ≠ 0 := fun h => by rw [h] at h1; omega
  have hE : E ≠ 0 := fun h => by rw [h] at h2; omega
  have hc : c ≠ 0 := fun h => by rw [h] at h1; omega
  have hd : d ≠ 0 := fun h => by rw [h] at h2; omega
  have e1 : a * E * (c * d) = a * c * q := by rw [← h2]; grind
  have e2 : b * D * (c * d) = b * d * q := by rw [← h1]; grind
  rw [Bool.eq_iff_iff, beq_iff_eq, beq_iff_eq]
  constructor
  · intro h
    have : a * E * (c * d) = b * D * (c * d) := by rw [e1, e2, h]
    exact Int.eq_of_mul_eq_mul_right (Int.mul_ne_zero hc hd) this
  · intro h
    have : a * c * q = b * d * q := by rw [← e1, ← e2, h]
    exact Int.eq_of_mul_eq_mul_right (by omega) this
/-- A sum of multiples, the last place first. -/
def imR (ps : List Int) : List Int → List Int → Int → Int
  | m :: r, y :: ys, x => addT ps y (x % m).toNat (imR ps r ys (x / m))
  | _, _, _ => 0
theorem gi_apl {q r : List Int} {j : Nat} (hj : j < q.length) : gi (q ++ r) j = gi q j := by
  unfold gi; rw [List.getD_eq_getElem?_getD, List.getD_eq_getElem?_getD, List.getElem?_append_left hj]
theorem gi_apr {q : List Int} {y : Int} : gi (q ++ [y]) q.length = y := by
  unfold gi; rw [List.getD_eq_getElem?_getD, List.getElem?_append_right (Nat.le_refl _)]; simp
theorem imT_app (ps : List Int) {D E X Y : List Int} : ∀ i, i ≤ D.length → i ≤ X.length → imT ps (D ++ E) (X ++ Y) i = imT ps D X i := by
  intro i
  induction i with
  | zero => intro _ _; rfl
  | succ i ih =>
    intro h1 h2
    show addT ps (gi (X ++ Y) i) (gi (D ++ E) i).toNat (imT ps (D ++ E) (X ++ Y) i) = addT ps (gi X i) (gi D i).toNat (imT ps D X i)
    rw [ih (by omega) (by omega), gi_apl (by omega), gi_apl (by omega)]
theorem imT_imR (ps : List Int) : ∀ (r ys : List Int) (x : Int), ys.length = r.length → imT ps (digR r x).reverse ys.reverse r.length = imR ps r ys x := by
  intro r
  induction r with
  | nil => intro ys x h; cases ys <;> rfl
  | cons m r ih =>
    intro ys x h
    cases ys with
    | nil => simp at h
    | cons y ys =>
      have hl : ys.length = r.length := by simpa using h
      have e1 : (digR (m :: r) x).reverse = (digR r (x / m)).reverse ++ [x % m] := by simp [digR]
      have e2 : (y :: ys).reverse = ys.reverse ++ [y] := by simp
      have d1 : (digR r (x / m)).reverse.length = r.length := by simp [digR_length]
      have d2 : ys.reverse.length = r.length := by simpa using hl
      rw [e1, e2]
      show addT ps (gi (ys.reverse ++ [y]) r.length) (gi ((digR r (x / m)).reverse ++ [x % m]) r.length).toNat (imT ps ((digR r (x / m)).reverse ++ [x % m]) (ys.reverse ++ [y]) r.length) = addT ps y (x % m).toNat (imR ps r ys (x / m))
      rw [imT_app ps r.length (by omega) (by omega), ih ys _ hl]
      have g1 : gi (ys.reverse ++ [y]) r.length = y := by rw [← d2]; exact gi_apr
      have g2 : gi ((digR r (x / m)).reverse ++ [x % m]) r.length = x % m := by rw [← d1]; exact gi_apr
      rw [g1, g2]
theorem imF_imR {os ps im : List Int} (h : im.length = os.length) (x : Int) : imF os ps im x = imR ps os.reverse im.reverse x := by
  have := imT_imR ps os.reverse im.reverse x (by simp [h])
  rw [List.reverse_reverse, List.length_reverse] at this
  exact this
theorem Mu_zero {ps : List Int} (hG : OkG ps) (y : Int) : Mu ps 0 y = 0 := mulR_dvd (fun m _ => Int.dvd_zero m) y
theorem imR_zero {ps : List Int} (hG : OkG ps) : ∀ (r ys : List Int), imR ps r ys 0 = 0 := by
  intro r
  induction r with
  | nil => intro ys; simp [imR]
  | cons m r ih =>
    intro ys
    cases ys with
    | nil => simp [imR]
    | cons y ys => simp only [imR, Int.zero_emod, Int.zero_ediv, ih]; rfl
section
variable {ps : List Int} (hG : OkG ps)
include hG
theorem addT_Mu (y : Int) : ∀ (k : Nat) (o : Int), 0 ≤ o → o < prodL ps → addT ps y k o = Ar ps o (Mu ps k y) := by
  intro k
  induction k with
  | zero => intro o h0 h1; rw [Int.natCast_zero, Mu_zero hG, Ar_zero hG h0 h1]; rfl
  | succ k ih =>
    intro o h0 h1
    show Ar ps (addT ps y k o) y = _
    rw [ih o h0 h1, Ar_assoc hG, Mu_succ hG, Int.natCast_succ]
theorem Mu_rng (k y : Int) : 0 ≤ Mu ps k y ∧ Mu ps k y < prodL ps := by
  have hp := hG.posR
  have key : ∀ (r : List Int), Pos r → ∀ x, 0 ≤ mulR r k x ∧ mulR r k x < prodL r := by
    intro r
    induction r with
    | nil => intro _ x; simp [mulR, prodL]
    | cons m r ih =>
      intro h x
      have hm := h.head
      obtain ⟨i1, i2⟩ := ih h.tail (x / m)
      obtain ⟨d1, d2⟩ := em (x := k * (x % m)) hm
      have := Int.mul_nonneg (show 0 ≤ m by omega) i1
      exact ⟨by simp only [mulR]; omega, by simp only [mulR, prodL]; exact lt_of_digit d2 i2 hm⟩
  have := key _ hp y
  rwa [prodL_reverse] at this
theorem Mu_add (y : Int) (a : Int) : ∀ b : Nat, Mu ps (a + b) y = Ar ps (Mu ps a y) (Mu ps b y) := by
  intro b
  induction b with
  | zero =>
    have := Mu_rng hG a y
    rw [Int.natCast_zero, Int.add_zero, Mu_zero hG, Ar_zero hG this.1 this.2]
  | succ b ih => rw [Int.natCast_succ, ← Int.add_assoc, ← Mu_succ hG, ih, Ar_assoc hG, Mu_succ hG]
theorem Mu_times {y : Int} {m : Nat} (h : Mu ps m y = 0) : ∀ q : Nat, Mu ps ((m : Int) * q) y = 0 := by
  have hge := hG.ge
  intro q
  induction q with
  | zero => rw [Int.natCast_zero, Int.mul_zero]; exact Mu_zero hG y
  | succ q ih =>
    rw [Int.natCast_succ, Int.mul_add, Int.mul_one, Mu_add hG, ih, h]
    exact Ar_zero hG (by omega) (by omega)
theorem Mu_mod {y : Int} {m : Nat} (hm : 1 ≤ m) (h : Mu ps m y = 0) (a : Nat) : Mu ps ((a % m : Nat) : Int) y = Mu ps a y := by
  have e : (a : Int) = (m : Int) * ((a / m : Nat) : Int) + ((a % m : Nat) : Int) := by
    have := Nat.div_add_mod a m
    rw [← Int.natCast_mul, ← Int.natCast_add, this]
  have hr := Mu_rng hG ((a % m : Nat) : Int) y
  rw [e, Mu_add hG, Mu_times hG h, Ar_comm, Ar_zero hG hr.1 hr.2]
theorem imR_rng : ∀ (r ys : List Int) (x : Int), 0 ≤ imR ps r ys x ∧ imR ps r ys x < prodL ps := by
  have hge := hG.ge
  intro r
  induction r with
  | nil => intro ys x; simp [imR]; omega
  | cons m r ih =>
    intro ys x
    cases ys with
    | nil => simp [imR]; omega
    | cons y ys =>
      have := ih ys (x / m)
      exact addT_rng hG y _ this.1 this.2
/-- The images of generators whose orders are told tell a homomorphism. -/
theorem imR_add : ∀ (r ys : List Int), Pos r → ys.length = r.length → (∀ k, k < r.length → Mu ps (gi r k) (gi ys k) = 0) → ∀ x x' : Int, imR ps r ys (addR r x x') = Ar ps (imR ps r ys x) (imR ps r ys x') := by
  have hge := hG.ge
  intro r
  induction r with
  | nil => intro ys _ _ _ x x'; simp only [imR]; exact (Ar_zero hG (by omega) (by omega)).symm
  | cons m r ih =>
    intro ys hp hl hk x x'
    cases ys with
    | nil => simp at hl
    | cons y ys =>
      have hm := hp.head
      obtain ⟨M, rfl⟩ := Int.eq_ofNat_of_zero_le (show 0 ≤ m by omega)
      have h0 : Mu ps (M : Int) y = 0 := hk 0 (by simp)
      have ih' := ih ys hp.tail (by simpa using hl) (fun k h => hk (k + 1) (by simpa using h)) (x / M) (x' / M)
      obtain ⟨e1, e2⟩ := addR_mod hp x x'
      obtain ⟨a0, a1⟩ := em (x := x) hm
      obtain ⟨b0, b1⟩ := em (x := x') hm
      obtain ⟨a, ha⟩ := Int.eq_ofNat_of_zero_le a0
      obtain ⟨b, hb⟩ := Int.eq_ofNat_of_zero_le b0
      show addT ps y (addR ((M : Int) :: r) x x' % (M : Int)).toNat (imR ps r ys (addR ((M : Int) :: r) x x' / (M : Int))) = Ar ps (addT ps y (x % (M : Int)).toNat (imR ps r ys (x / (M : Int)))) (addT ps y (x' % (M : Int)).toNat (imR ps r ys (x' / (M : Int))))
      rw [e1, e2, ih', ha, hb]
      have e3 : (((a : Int) + b) % (M : Int)).toNat = (a + b) % M := by
        rw [← Int.natCast_add, ← Int.natCast_emod]; exact Int.toNat_natCast _
      rw [e3, Int.toNat_natCast, Int.toNat_natCast]
      obtain ⟨A, hA⟩ : ∃ A, imR ps r ys (x / (M : Int)) = A := ⟨_, rfl⟩
      obtain ⟨B, hB⟩ : ∃ B, imR ps r ys (x' / (M : Int)) = B := ⟨_, rfl⟩
      have rA := imR_rng hG r ys (x / (M : Int))
      have rB := imR_rng hG r ys (x' / (M : Int))
      rw [hA] at rA ⊢
      rw [hB] at rB ⊢
      have rAB := Ar_rng hG A B
      rw [addT_Mu hG y _ _ rAB.1 rAB.2, addT_Mu hG y _ _ rA.1 rA.2, addT_Mu hG y _ _ rB.1 rB.2, Mu_mod hG (by omega) h0, Int.natCast_add, Mu_add hG]
      rw [Ar_assoc hG A, Ar_assoc hG A, ← Ar_assoc hG (Mu ps a y) B, Ar_comm ps (Mu ps a y) B, Ar_assoc hG B]
/-- At a generator. -/
theorem imR_gen : ∀ (r ys : List Int), (∀ m ∈ r, 2 ≤ m) → ys.length = r.length → (∀ y ∈ ys, 0 ≤ y ∧ y < prodL ps) → ∀ k, k < r.length → imR ps r ys (prodL (r.take k)) = gi ys k := by
  have hge := hG.ge
  intro r
  induction r with
  | nil => intro ys _ _ _ k hk; simp at hk
  | cons m r ih =>
    intro ys h2 hl hr k hk
    cases ys with
    | nil => simp at hl
    | cons y ys =>
      have hm := h2 m (by simp)
      have ry := hr y (by simp)
      cases k with
      | zero =>
        have e1 : (1 : Int) % m = 1 := Int.emod_eq_of_lt (by omega) (by omega)
        have e2 : (1 : Int) / m = 0 := Int.ediv_eq_zero_of_lt (by omega) (by omega)
        show addT ps y ((1 : Int) % m).toNat (imR ps r ys ((1 : Int) / m)) = y
        rw [e1, e2, imR_zero hG]
        show Ar ps (addT ps y 0 0) y = y
        show Ar ps 0 y = y
        rw [Ar_comm, Ar_zero hG ry.1 ry.2]
      | succ k =>
        have e0 : prodL ((m :: r).take (k + 1)) = m * prodL (r.take k) := rfl
        have e1 : (m * prodL (r.take k)) % m = 0 := Int.mul_emod_right _ _
        have e2 : (m * prodL (r.take k)) / m = prodL (r.take k) := Int.mul_ediv_cancel_left _ (by omega)
        rw [e0]
        show addT ps y ((m * prodL (r.take k)) % m).toNat (imR ps r ys ((m * prodL (r.take k)) / m)) = gi ys k
        rw [e1, e2, ih ys (fun m h => h2 m (by simp [h])) (by simpa using hl) (fun y h => hr y (by simp [h])) k (by simpa using hk)]
        rfl
end
/-- What holds 0 and the generators and is closed holds all elements. -/
theorem gen_all : ∀ (r : List Int), (∀ m ∈ r, 2 ≤ m) → ∀ S : Int → Prop, S 0 → (∀ x y, S x → S y → S (addR r x y)) → (∀ k, k < r.length → S (prodL (r.take k))) → ∀ x, 0 ≤ x → x < prodL r → S x := by
  intro r
  induction r with
  | nil => intro _ S h0 _ _ x x0 x1; simp [prodL] at x1; rwa [show x = 0 by omega]
  | cons m r ih =>
    intro h2 S h0 ha hg x x0 x1
    have hm := h2 m (by simp)
    have hp : Pos (m :: r) := fun k hk => by have := h2 k hk; omega
    have hS : ∀ z, 0 ≤ z → z < prodL r → S (m * z) := ih (fun k hk => h2 k (by simp [hk])) (fun z => S (m * z)) (by simpa using h0) (fun z z' hz hz' => by
      have := ha _ _ hz hz'
      simp only [addR] at this
      rw [Int.mul_emod_right, Int.mul_emod_right, Int.mul_ediv_cancel_left _ (by omega), Int.mul_ediv_cancel_left _ (by omega)] at this
      simpa using this) (fun k hk => hg (k + 1) (by simpa using hk))
    have q0 : 0 ≤ x / m := Int.ediv_nonneg x0 (by omega)
    have q1 : x / m < prodL r := Int.ediv_lt_of_lt_mul (by omega) (by rw [Int.mul_comm]; exact x1)
    have h1 : S 1 := hg 0 (by simp)
    have key : ∀ d : Nat, (d : Int) < m → S (d + m * (x / m)) := by
      intro d
      induction d with
      | zero => intro _; simpa using hS _ q0 q1
      | succ d ihd =>
        intro hd
        have h3 := ha _ _ (ihd (by omega)) h1
        obtain ⟨e1, e2⟩ := dm (x / m) (show (0 : Int) ≤ d by omega) (show (d : Int) < m by omega)
        simp only [addR] at h3
        rw [e1, e2, Int.emod_eq_of_lt (show (0 : Int) ≤ 1 by omega) (show (1 : Int) < m by omega), Int.ediv_eq_zero_of_lt (show (0 : Int) ≤ 1 by omega) (show (1 : Int) < m by omega), addR_zero hp.tail _ q0 q1, Int.emod_eq_of_lt (by omega) (by omega)] at h3
        rw [Int.natCast_succ]
        exact h3
    obtain ⟨d0, d1⟩ := em (x := x) (show 1 ≤ m by omega)
    have := key (x % m).toNat (by omega)
    rw [Int.toNat_of_nonneg d0, Int.emod_add_mul_ediv] at this
    exact this
/-- A homomorphism. -/
structure Hom (os ps : List Int) (f : Int → Int) : Prop where
  rng : ∀ x, 0 ≤ x → x < prodL os → 0 ≤ f x ∧ f x < prodL ps
  zero : f 0 = 0
  add : ∀ x y, 0 ≤ x → x < prodL os → 0 ≤ y → y < prodL os → f (Ar os x y) = Ar ps (f x) (f y)
theorem gen_rev {os : List Int} {k : Nat} (hk : k < os.length) : prodL (os.reverse.take k) = prodL (os.drop (os.length - k)) := by
  rw [List.take_reverse, prodL_reverse]
/-- Homomorphisms that agree at the generators agree. -/
theorem Hom.ext {os ps : List Int} (hO : OkG os) (hG : OkG ps) {f g : Int → Int} (hf : Hom os ps f) (hg : Hom os ps g) (h : ∀ i, i < os.length → f (prodL (os.drop (i + 1))) = g (prodL (os.drop (i + 1)))) : ∀ x, 0 ≤ x → x < prodL os → f x = g x := by
  have hge := hO.ge
  intro x x0 x1
  have := gen_all os.reverse (fun m hm => hO.m2 m (by simpa using hm)) (fun x => (0 ≤ x ∧ x < prodL os) ∧ f x = g x) ⟨⟨by omega, by omega⟩, by rw [hf.zero, hg.zero]⟩ (fun x y ⟨rx, ex⟩ ⟨ry, ey⟩ => ⟨Ar_rng hO x y, by
    have a := hf.add x y rx.1 rx.2 ry.1 ry.2
    have b := hg.add x y rx.1 rx.2 ry.1 ry.2
    unfold Ar at a b
    rw [a, b, ex, ey]⟩) (fun k hk => by
    have hk' : k < os.length := by simpa using hk
    have e := h (os.length - 1 - k) (by omega)
    rw [show os.length - 1 - k + 1 = os.length - k by omega] at e
    rw [gen_rev hk']
    refine ⟨?_, e⟩
    have hp : Pos (os.take (os.length - k)) := fun m hm => hO.pos m (List.mem_of_mem_take hm)
    have hd : Pos (os.drop (os.length - k)) := fun m hm => hO.pos m (List.mem_of_mem_drop hm)
    have a := prodL_pos hd
    refine ⟨by omega, ?_⟩
    -- a proper divisor
    have hs : prodL os = prodL (os.take (os.length - k)) * prodL (os.drop (os.length - k)) := by rw [← prodL_append, List.take_append_drop]
    have h2 : 2 ≤ prodL (os.take (os.length - k)) := by
      cases hc : os.take (os.length - k) with
      | nil => have := congrArg List.length hc; simp at this; omega
      | cons m r =>
        rw [hc] at hp
        have hm : 2 ≤ m := hO.m2 m (List.mem_of_mem_take (by rw [hc]; simp))
        have hr := prodL_pos hp.tail
        have : 2 * 1 ≤ m * prodL r := Int.mul_le_mul hm hr (by omega) (by omega)
        simp only [prodL]; omega
    have : 2 * prodL (os.drop (os.length - k)) ≤ prodL (os.take (os.length - k)) * prodL (os.drop (os.length - k)) := Int.mul_le_mul_of_nonneg_right h2 (by omega)
    omega) x x0 (by rwa [prodL_reverse])
  exact this.2
theorem gi_ext2 {xs ys : List Int} (hl : xs.length = ys.length) (h : ∀ i, i < xs.length → gi xs i = gi ys i) : xs = ys := by
  refine List.ext_getElem hl fun i h1 h2 => ?_
  have := h i h1
  unfold gi at this
  rwa [List.getD_eq_getElem?_getD, List.getD_eq_getElem?_getD, List.getElem?_eq_getElem h1, List.getElem?_eq_getElem h2] at this
/-- The images of generators tell a homomorphism with these images. -/
theorem im_hom {os ps x : List Int} (hO : OkG os) (hG : OkG ps) (hl : x.length = os.length) (hr : ∀ y ∈ x, 0 ≤ y ∧ y < prodL ps) (hz : ∀ i, i < os.length → Mu ps (gi os i) (gi x i) = 0) :
    Hom os ps (imF os ps x) ∧ ∀ i, i < os.length → imF os ps x (prodL (os.drop (i + 1))) = gi x i := by
  have hlr : x.reverse.length = os.reverse.length := by simp [hl]
  refine ⟨⟨fun z _ _ => imF_rng hG x z, by rw [imF_imR hl]; exact imR_zero hG _ _, fun a b _ _ _ _ => ?_⟩, fun i hi => ?_⟩
  · rw [imF_imR hl, imF_imR hl, imF_imR hl]
    refine imR_add hG os.reverse x.reverse hO.posR hlr (fun k hk => ?_) a b
    have hk' : k < os.length := by simpa using hk
    rw [gi_reverse hk', gi_reverse (by omega), hl]
    exact hz _ (by omega)
  · rw [imF_imR hl]
    have := imR_gen hG os.reverse x.reverse (fun m hm => hO.m2 m (by simpa using hm)) hlr (fun y hy => hr y (by simpa using hy)) (os.length - 1 - i) (by simp; omega)
    rw [gen_rev (by omega), show os.length - (os.length - 1 - i) = i + 1 by omega, gi_reverse (by omega), show x.length - 1 - (os.length - 1 - i) = i by omega] at this
    exact this
theorem ord_unique {os : List Int} {x : Int} {r : Nat} (hO : OkG os) (h : IsOrd os x r) : ordN os x = r := by
  have h2 := ordN_spec hO x
  have a := h.pos
  have b := h2.pos
  rcases Nat.lt_trichotomy (ordN os x) r with c | c | c
  · exact absurd h2.zero (h.ne _ b c)
  · exact c
  · exact absurd h.zero (h2.ne _ a c)
theorem mulR_0 (r : List Int) (k : Int) : mulR r k 0 = 0 := by
  induction r with
  | nil => rfl
  | cons m r ih => simp only [mulR, Int.zero_emod, Int.zero_ediv, ih]; simp
theorem mulR_gen : ∀ (r : List Int), (∀ m ∈ r, 2 ≤ m) → ∀ (k : Int) (i : Nat), i < r.length → mulR r k (prodL (r.take i)) = (k % gi r i) * prodL (r.take i) := by
  intro r
  induction r with
  | nil => intro _ k i hi; simp at hi
  | cons m r ih =>
    intro h2 k i hi
    have hm := h2 m (by simp)
    cases i with
    | zero =>
      have e1 : (1 : Int) % m = 1 := Int.emod_eq_of_lt (by omega) (by omega)
      have e2 : (1 : Int) / m = 0 := Int.ediv_eq_zero_of_lt (by omega) (by omega)
      show (k * ((1 : Int) % m)) % m + m * mulR r k ((1 : Int) / m) = (k % m) * 1
      rw [e1, e2, mulR_0]; simp
    | succ i =>
      have e0 : prodL ((m :: r).take (i + 1)) = m * prodL (r.take i) := rfl
      have e1 : (m * prodL (r.take i)) % m = 0 := Int.mul_emod_right _ _
      have e2 : (m * prodL (r.take i)) / m = prodL (r.take i) := Int.mul_ediv_cancel_left _ (by omega)
      rw [e0]
      show (k * ((m * prodL (r.take i)) % m)) % m + m * mulR r k ((m * prodL (r.take i)) / m) = (k % gi r i) * (m * prodL (r.take i))
      rw [e1, e2, ih (fun m h => h2 m (by simp [h])) k i (by simpa using hi)]
      simp only [Int.mul_zero, Int.zero_emod, Int.zero_add]
      rw [← Int.mul_assoc, ← Int.mul_assoc, Int.mul_comm m]
/-- The order of a generator. -/
theorem ord_gen {os : List Int} (hO : OkG os) {i : Nat} (hi : i < os.length) : (ordN os (prodL (os.drop (i + 1))) : Int) = gi os i := by
  have hm := gi_mem hi
  have m2 := hO.m2 _ hm
  have m16 := hO.m16 _ hm
  obtain ⟨M, hM⟩ := Int.eq_ofNat_of_zero_le (show 0 ≤ gi os i by omega)
  have hg := fun k => mulR_gen os.reverse (fun m hm => hO.m2 m (by simpa using hm)) k (os.length - 1 - i) (by simp; omega)
  have e1 : prodL (os.reverse.take (os.length - 1 - i)) = prodL (os.drop (i + 1)) := by
    rw [gen_rev (by omega), show os.length - (os.length - 1 - i) = i + 1 by omega]
  have e2 : gi os.reverse (os.length - 1 - i) = M := by
    rw [gi_reverse (by omega), show os.length - 1 - (os.length - 1 - i) = i by omega, hM]
  rw [e1, e2] at hg
  have hp : 1 ≤ prodL (os.drop (i + 1)) := prodL_pos fun m hm => hO.pos m (List.mem_of_mem_drop hm)
  have : IsOrd os (prodL (os.drop (i + 1))) M := by
    refine ⟨by omega, by omega, ?_, fun j j1 j2 h0 => ?_⟩
    · show mulR os.reverse M _ = 0
      rw [hg, Int.emod_self, Int.zero_mul]
    · have h1 : mulR os.reverse j (prodL (os.drop (i + 1))) = 0 := h0
      rw [hg, Int.emod_eq_of_lt (by omega) (by omega)] at h1
      rcases Int.mul_eq_zero.1 h1 with h | h <;> omega
  rw [ord_unique hO this, hM]
/-- A one-to-one map of the first N numbers to themselves meets each. -/
theorem onto_of_inj {N : Nat} {F : Int → Int} (hr : ∀ z : Nat, z < N → 0 ≤ F z ∧ F z < N) (hi : ∀ z z' : Nat, z < N → z' < N → F z = F z' → z = z') (y : Int) (y0 : 0 ≤ y) (y1 : y < N) : ∃ z : Nat, z < N ∧ F z = y := by
  refine Classical.byContradiction fun hn => ?_
  have nd : (y :: (List.range N).map fun z => F (z : Nat)).Nodup := by
    rw [List.nodup_cons]
    refine ⟨fun hm => ?_, ?_⟩
    · obtain ⟨z, hz, e⟩ := List.mem_map.1 hm
      exact hn ⟨z, List.mem_range.1 hz, e⟩
    · rw [List.nodup_iff_pairwise_ne, List.pairwise_map]
      exact List.nodup_range.imp_of_mem fun {a b} ha hb hab he => hab (hi a b (List.mem_range.1 ha) (List.mem_range.1 hb) he)
  have := nd.length_le_of_subset (l₂ := (List.range N).map fun (z : Nat) => (z : Int)) fun v hv => by
    rcases List.mem_cons.1 hv with rfl | hv
    · exact List.mem_map.2 ⟨v.toNat, List.mem_range.2 (by omega), by omega⟩
    · obtain ⟨z, hz, rfl⟩ := List.mem_map.1 hv
      have := hr z (List.mem_range.1 hz)
      exact List.mem_map.2 ⟨(F z).toNat, List.mem_range.2 (by omega), by omega⟩
  simp at this
  omega
/-- x tells an isometry of T. -/
structure IsIso (T : Two) (x : List Int) : Prop where
  len : x.length = T.os.length
  rng : ∀ y ∈ x, 0 ≤ y ∧ y < prodL T.ps
  ord : ∀ i, i < T.os.length → (ordN T.ps (gi x i) : Int) = gi T.os i
  al : ∀ z : Nat, z < T.N → T.al z (T.im x z) = true
  inj : ∀ z z' : Nat, z < T.N → z' < T.N → T.im x z = T.im x z' → z = z'
theorem mem_isos (T : Two) : ∀ k pre x, x ∈ T.isos k pre ↔ ∃ t : List Int, x = pre ++ t ∧ t.length = k ∧ (∀ j, j < k → ∃ y : Nat, gi t j = y ∧ y < T.N ∧ T.cand (T.os.length - (k - j)) y = true) ∧ T.iso x = true := by
  intro k
  induction k with
  | zero =>
    intro pre x
    unfold Two.isos
    constructor
    · intro h
      split at h
      · rename_i hi
        rw [List.mem_singleton.1 h]
        exact ⟨[], by simp, rfl, fun j hj => absurd hj (by omega), hi⟩
      · cases h
    · rintro ⟨t, rfl, ht, _, hi⟩
      obtain rfl := List.length_eq_zero_iff.1 ht
      rw [List.append_nil] at hi ⊢
      rw [if_pos hi]; simp
  | succ k ih =>
    intro pre x
    unfold Two.isos
    rw [List.mem_flatMap]
    constructor
    · rintro ⟨y, hy, hx⟩
      rw [List.mem_filter, List.mem_range] at hy
      obtain ⟨t, rfl, ht, hc, hi⟩ := (ih _ _).1 hx
      refine ⟨(y : Int) :: t, by simp, by simp [ht], fun j hj => ?_, hi⟩
      cases j with
      | zero => exact ⟨y, rfl, hy.1, hy.2⟩
      | succ j =>
        obtain ⟨v, h1, h2, h3⟩ := hc j (by omega)
        exact ⟨v, h1, h2, by rw [Nat.add_sub_add_right]; exact h3⟩
    · rintro ⟨t, rfl, ht, hc, hi⟩
      cases t with
      | nil => simp at ht
      | cons a t =>
        obtain ⟨y, h1, h2, h3⟩ := hc 0 (by omega)
        have h1 : a = y := h1
        subst h1
        refine ⟨y, List.mem_filter.2 ⟨List.mem_range.2 h2, h3⟩, (ih _ _).2 ⟨t, by simp, by simpa using ht, fun j hj => ?_, by simpa using hi⟩⟩
        obtain ⟨v, g1, g2, g3⟩ := hc (j + 1) (by omega)
        exact ⟨v, g1, g2, by rw [Nat.add_sub_add_right] at g3; exact g3⟩
theorem isos_nodup (T : Two) : ∀ k pre, (T.isos k pre).Nodup := by
  intro k
  induction k with
  | zero => intro pre; unfold Two.isos; split <;> simp
  | succ k ih =>
    intro pre
    unfold Two.isos
    rw [List.nodup_iff_pairwise_ne, List.pairwise_flatMap]
    refine ⟨fun y _ => List.nodup_iff_pairwise_ne.1 (ih _), ?_⟩
    refine (List.nodup_iff_pairwise_ne.1 (List.nodup_range.filter _)).imp fun {a b} hab x hx y hy he => hab ?_
    obtain ⟨t, rfl, _⟩ := (mem_isos T _ _ _).1 hx
    obtain ⟨s, e, _⟩ := (mem_isos T _ _ _).1 hy
    rw [e] at he
    rw [List.append_assoc, List.append_assoc] at he
    have := List.append_cancel_left he
    simp at this
    omega
theorem iso_iff (T : Two) (x : List Int) : T.iso x = true ↔ (∀ z : Nat, z < T.N → T.al z (T.im x z) = true) ∧ ∀ z z' : Nat, z' < z → z < T.N → T.im x z' ≠ T.im x z := by
  unfold Two.iso Two.goes
  rw [List.all_eq_true]
  simp only [List.mem_range, Bool.and_eq_true, Bool.not_eq_true']
  have hm : ∀ z : Nat, hasB (T.ims x z) (T.im x z) = false ↔ ∀ z' : Nat, z' < z → T.im x z' ≠ T.im x z := fun z => by
    rw [Bool.eq_false_iff, Ne, hasB_iff]
    unfold Two.ims
    simp only [List.mem_map, List.mem_range, not_exists, not_and]
  constructor
  · intro h
    exact ⟨fun z hz => (h z hz).1, fun z z' h1 h2 => (hm z).1 (h z h2).2 z' h1⟩
  · rintro ⟨h1, h2⟩ z hz
    exact ⟨h1 z hz, (hm z).2 fun z' hz' => h2 z z' hz' hz⟩
theorem IsIso.hom {T : Two} (hM : IsM T.os T.D T.vs) (hN : IsM T.ps T.E T.us) (hl : T.vs.length = T.us.length) {x : List Int} (h : IsIso T x) : Hom T.os T.ps (imF T.os T.ps x) ∧ ∀ i, i < T.os.length → imF T.os T.ps x (prodL (T.os.drop (i + 1))) = gi x i :=
  im_hom hM.ok.g hN.ok.g h.len h.rng fun i hi => by rw [← h.ord i hi]; exact (ordN_spec hN.ok.g _).zero
theorem gen_rng {T : Two} (hM : IsM T.os T.D T.vs) (hN : IsM T.ps T.E T.us) (hl : T.vs.length = T.us.length) {i : Nat} (hi : i < T.os.length) : 0 ≤ prodL (T.os.drop (i + 1)) ∧ prodL (T.os.drop (i + 1)) < prodL T.os := by
  have hO := hM.ok.g
  have hd : 1 ≤ prodL (T.os.drop (i + 1)) := prodL_pos fun m hm => hO.pos m (List.mem_of_mem_drop hm)
  have hs : prodL T.os = prodL (T.os.take (i + 1)) * prodL (T.os.drop (i + 1)) := by rw [← prodL_append, List.take_append_drop]
  have hp : Pos (T.os.take (i + 1)) := fun m hm => hO.pos m (List.mem_of_mem_take hm)
  have h2 : 2 ≤ prodL (T.os.take (i + 1)) := by
    cases hc : T.os.take (i + 1) with
    | nil => have := congrArg List.length hc; simp at this; rw [this] at hi; simp at hi
    | cons m r =>
      rw [hc] at hp
      have hm : 2 ≤ m := hO.m2 m (List.mem_of_mem_take (by rw [hc]; simp))
      have hr := prodL_pos hp.tail
      have : 2 * 1 ≤ m * prodL r := Int.mul_le_mul hm hr (by omega) (by omega)
      simp only [prodL]; omega
  have : 2 * prodL (T.os.drop (i + 1)) ≤ prodL (T.os.take (i + 1)) * prodL (T.os.drop (i + 1)) := Int.mul_le_mul_of_nonneg_right h2 (by omega)
  exact ⟨by omega, by omega⟩
section
variable {T : Two} (hM : IsM T.os T.D T.vs) (hN : IsM T.ps T.E T.us) (hl : T.vs.length = T.us.length)
include hM hN hl
theorem mem_all {x : List Int} : x ∈ T.all ↔ IsIso T x := by
  have lv := hM.ok.len
  have lu := hN.ok.len
  unfold Two.all
  rw [if_pos hl, mem_isos]
  constructor
  · rintro ⟨t, e, ht, hc, hi⟩
    rw [List.nil_append] at e
    subst e
    obtain ⟨h1, h2⟩ := (iso_iff T x).1 hi
    refine ⟨ht, fun y hy => ?_, fun i hi => ?_, h1, fun z z' hz hz' he => ?_⟩
    · obtain ⟨j, hj, rfl⟩ := List.getElem_of_mem hy
      obtain ⟨v, e, hv, _⟩ := hc j (by omega)
      have : x[j] = v := by rw [← e]; unfold gi; rw [List.getD_eq_getElem?_getD, List.getElem?_eq_getElem hj]; rfl
      unfold Two.N at hv
      omega
    · obtain ⟨v, e, hv, hcd⟩ := hc i hi
      rw [show T.os.length - (T.os.length - i) = i by omega] at hcd
      unfold Two.cand at hcd
      rw [Bool.and_eq_true, decide_eq_true_eq] at hcd
      rw [e]; exact hcd.1
    · rcases Nat.lt_trichotomy z z' with c | c | c
      · exact absurd he (h2 z' z c hz')
      · exact c
      · exact absurd he.symm (h2 z z' c hz)
  · intro h
    refine ⟨x, by simp, h.len, fun j hj => ?_, (iso_iff T x).2 ⟨h.al, fun z z' h1 h2 he => by have := h.inj z' z (by omega) h2 he; omega⟩⟩
    have hr := h.rng _ (gi_mem (show j < x.length by rw [h.len]; exact hj))
    refine ⟨(gi x j).toNat, by omega, by unfold Two.N; omega, ?_⟩
    rw [show T.os.length - (T.os.length - j) = j by omega]
    unfold Two.cand
    rw [Bool.and_eq_true, decide_eq_true_eq, Int.toNat_of_nonneg hr.1]
    refine ⟨h.ord j hj, ?_⟩
    have hg := gen_rng hM hN hl hj
    have ha := h.al (prodL (T.os.drop (j + 1))).toNat (by unfold Two.N; omega)
    unfold Two.im at ha
    rw [Int.toNat_of_nonneg hg.1, (h.hom hM hN hl).2 j hj] at ha
    exact ha
end
/-- The other way round. -/
def Two.swap (T : Two) : Two := ⟨T.ps, T.E, T.us, T.os, T.D, T.vs⟩
section
variable {T : Two} (hM : IsM T.os T.D T.vs) (hN : IsM T.ps T.E T.us) (hl : T.vs.length = T.us.length)
include hM hN hl
/-- An isometry has an inverse. -/
theorem iso_inv {x : List Int} (h : IsIso T x) : ∃ x', IsIso T.swap x' ∧ ∀ y : Int, 0 ≤ y → y < prodL T.ps → imF T.os T.ps x (imF T.ps T.os x' y) = y := by
  have hO := hM.ok.g
  have hG := hN.ok.g
  have lv := hM.ok.len
  have lu := hN.ok.len
  have hgO := hO.ge
  have hgG := hG.ge
  have hNN : ((T.N : Nat) : Int) = prodL T.ps := lu
  have hNO : ((T.N : Nat) : Int) = prodL T.os := by unfold Two.N; omega
  obtain ⟨hF, hFg⟩ := h.hom hM hN hl
  obtain ⟨F, hFe⟩ : ∃ F, imF T.os T.ps x = F := ⟨_, rfl⟩
  have hal : ∀ z : Nat, z < T.N → T.al z (F z) = true := fun z hz => by rw [← hFe]; exact h.al z hz
  have hinj : ∀ z z' : Nat, z < T.N → z' < T.N → F z = F z' → z = z' := fun z z' a b e => h.inj z z' a b (by rw [← hFe] at e; exact e)
  rw [hFe] at hF hFg ⊢
  have hex : ∀ y : Int, ∃ z : Int, 0 ≤ y → y < prodL T.ps → (0 ≤ z ∧ z < prodL T.os) ∧ F z = y := fun y => by
    by_cases hy : 0 ≤ y ∧ y < prodL T.ps
    · obtain ⟨z, hz, e⟩ := onto_of_inj (N := T.N) (F := F) (fun z hz => by have := hF.rng z (by omega) (by omega); omega) hinj y hy.1 (by omega)
      exact ⟨z, fun _ _ => ⟨⟨by omega, by omega⟩, e⟩⟩
    · exact ⟨0, fun a b => absurd ⟨a, b⟩ hy⟩
  obtain ⟨g, hg⟩ := Classical.axiomOfChoice hex
  have hin : ∀ a b : Int, 0 ≤ a → a < prodL T.os → 0 ≤ b → b < prodL T.os → F a = F b → a = b := fun a b a0 a1 b0 b1 e => by
    have := hinj a.toNat b.toNat (by omega) (by omega) (by rw [Int.toNat_of_nonneg a0, Int.toNat_of_nonneg b0]; exact e)
    omega
  have hgH : Hom T.ps T.os g := by
    refine ⟨fun y y0 y1 => (hg y y0 y1).1, ?_, fun y y' y0 y1 y0' y1' => ?_⟩
    · obtain ⟨r, e⟩ := hg 0 (by omega) (by omega)
      exact hin _ _ r.1 r.2 (by omega) (by omega) (by rw [e, hF.zero])
    · obtain ⟨r, e⟩ := hg y y0 y1
      obtain ⟨r', e'⟩ := hg y' y0' y1'
      have rs := Ar_rng hG y y'
      obtain ⟨rr, ee⟩ := hg _ rs.1 rs.2
      have ra := Ar_rng hO (g y) (g y')
      refine hin _ _ rr.1 rr.2 ra.1 ra.2 ?_
      rw [ee, hF.add _ _ r.1 r.2 r'.1 r'.2, e, e']
  have hMu : ∀ (y : Int), 0 ≤ y → y < prodL T.ps → ∀ k : Nat, g (Mu T.ps k y) = Mu T.os k (g y) := fun y y0 y1 k => by
    induction k with
    | zero => rw [Int.natCast_zero, Mu_zero hG, Mu_zero hO, hgH.zero]
    | succ k ih =>
      have rm := Mu_rng hG (k : Int) y
      rw [Int.natCast_succ, ← Mu_succ hG, ← Mu_succ hO, hgH.add _ _ rm.1 rm.2 y0 y1, ih]
  have hgi : ∀ a b : Int, 0 ≤ a → a < prodL T.ps → 0 ≤ b → b < prodL T.ps → g a = g b → a = b := fun a b a0 a1 b0 b1 e => by
    rw [← (hg a a0 a1).2, ← (hg b b0 b1).2, e]
  have hord : ∀ y : Int, 0 ≤ y → y < prodL T.ps → ordN T.os (g y) = ordN T.ps y := fun y y0 y1 => by
    have ho := ordN_spec hG y
    refine ord_unique hO ⟨ho.pos, ho.le, by rw [← hMu y y0 y1, ho.zero, hgH.zero], fun j j1 j2 h0 => ho.ne j j1 j2 ?_⟩
    rw [← hMu y y0 y1] at h0
    have rm := Mu_rng hG (j : Int) y
    exact hgi _ _ rm.1 rm.2 (by omega) (by omega) (by rw [h0, hgH.zero])
  have hgr : ∀ {j : Nat}, j < T.ps.length → 0 ≤ prodL (T.ps.drop (j + 1)) ∧ prodL (T.ps.drop (j + 1)) < prodL T.ps := fun hj => gen_rng (T := T.swap) hN hM hl.symm hj
  obtain ⟨x', hx'⟩ : ∃ x', (List.range T.ps.length).map (fun j => g (prodL (T.ps.drop (j + 1)))) = x' := ⟨_, rfl⟩
  have xl : x'.length = T.ps.length := by rw [← hx']; simp
  have xg : ∀ j, j < T.ps.length → gi x' j = g (prodL (T.ps.drop (j + 1))) := fun j hj => by
    rw [← hx']; unfold gi; rw [List.getD_eq_getElem?_getD, List.getElem?_map, List.getElem?_range hj]; rfl
  have xr : ∀ v ∈ x', 0 ≤ v ∧ v < prodL T.os := fun v hv => by
    rw [← hx'] at hv
    obtain ⟨j, hj, rfl⟩ := List.mem_map.1 hv
    have := hgr (List.mem_range.1 hj)
    exact (hg _ this.1 this.2).1
  have xo : ∀ j, j < T.ps.length → (ordN T.os (gi x' j) : Int) = gi T.ps j := fun j hj => by
    have := hgr hj
    rw [xg j hj, hord _ this.1 this.2, ord_gen hG hj]
  obtain ⟨hH, hHg⟩ := im_hom (os := T.ps) (ps := T.os) hG hO xl xr (fun j hj => by rw [← xo j hj]; exact (ordN_spec hO _).zero)
  have hgx : ∀ y, 0 ≤ y → y < prodL T.ps → imF T.ps T.os x' y = g y := Hom.ext hG hO hH hgH fun i hi => by rw [hHg i hi, xg i hi]
  have hNs : T.swap.N = T.N := by show T.vs.length = T.us.length; exact hl
  refine ⟨x', ⟨xl, xr, xo, fun z hz => ?_, fun z z' hz hz' he => ?_⟩, fun y y0 y1 => by rw [hgx y y0 y1]; exact (hg y y0 y1).2⟩
  · rw [hNs] at hz
    have z1 : (z : Int) < prodL T.ps := by omega
    have e : T.swap.im x' z = g z := hgx z (by omega) z1
    rw [e]
    obtain ⟨r, eF⟩ := hg z (by omega) z1
    have ha := hal (g z).toNat (by omega)
    rw [Int.toNat_of_nonneg r.1, eF] at ha
    unfold Two.al alB at ha ⊢
    rw [beq_iff_eq] at ha ⊢
    exact ha.symm
  · rw [hNs] at hz hz'
    have e1 : T.swap.im x' z = g z := hgx z (by omega) (by omega)
    have e2 : T.swap.im x' z' = g z' := hgx z' (by omega) (by omega)
    rw [e1, e2] at he
    have := hgi z z' (by omega) (by omega) (by omega) (by omega) he
    omega
theorem all_le : T.all.length ≤ T.swap.all.length := by
  have hO := hM.ok.g
  have hG := hN.ok.g
  have lv := hM.ok.len
  have lu := hN.ok.len
  have hex : ∀ x, ∃ x', x ∈ T.all → IsIso T.swap x' ∧ ∀ y : Int, 0 ≤ y → y < prodL T.ps → imF T.os T.ps x (imF T.ps T.os x' y) = y := fun x => by
    by_cases hx : x ∈ T.all
    · obtain ⟨x', h⟩ := iso_inv hM hN hl ((mem_all hM hN hl).1 hx)
      exact ⟨x', fun _ => h⟩
    · exact ⟨[], fun h => absurd h hx⟩
  obtain ⟨Φ, hΦ⟩ := Classical.axiomOfChoice hex
  have hnd : T.all.Nodup := by unfold Two.all; rw [if_pos hl]; exact isos_nodup _ _ _
  have nd : (T.all.map Φ).Nodup := by
    rw [List.nodup_iff_pairwise_ne, List.pairwise_map]
    refine (List.nodup_iff_pairwise_ne.1 hnd).imp_of_mem fun {a b} ha hb hab he => hab ?_
    have ia := (mem_all hM hN hl).1 ha
    have ib := (mem_all hM hN hl).1 hb
    obtain ⟨ja, ka⟩ := hΦ a ha
    obtain ⟨jb, kb⟩ := hΦ b hb
    rw [← he] at kb
    obtain ⟨hA, gA⟩ := ia.hom hM hN hl
    obtain ⟨hB, gB⟩ := ib.hom hM hN hl
    refine gi_ext2 (by rw [ia.len, ib.len]) fun i hi => ?_
    rw [ia.len] at hi
    rw [← gA i hi, ← gB i hi]
    have rz := gen_rng hM hN hl hi
    obtain ⟨z, hz⟩ : ∃ z, prodL (T.os.drop (i + 1)) = z := ⟨_, rfl⟩
    rw [hz] at rz ⊢
    have ry := hA.rng z rz.1 rz.2
    have e1 := ka _ ry.1 ry.2
    have rr := imF_rng (os := T.ps) hO (Φ a) (imF T.os T.ps a z)
    have e2 : imF T.ps T.os (Φ a) (imF T.os T.ps a z) = z := by
      have := ia.inj (imF T.ps T.os (Φ a) (imF T.os T.ps a z)).toNat z.toNat (by unfold Two.N; omega) (by unfold Two.N; omega) (by
        unfold Two.im
        rw [Int.toNat_of_nonneg rr.1, Int.toNat_of_nonneg rz.1]; exact e1)
      omega
    have e3 := kb _ ry.1 ry.2
    rw [e2] at e3
    exact e3.symm
  have := nd.length_le_of_subset (l₂ := T.swap.all) fun v hv => by
    obtain ⟨x, hx, rfl⟩ := List.mem_map.1 hv
    exact (mem_all (T := T.swap) hN hM hl.symm).2 (hΦ x hx).1
  simpa using this
end
/-- There are as many isometries back as forth. -/
theorem all_swap {T : Two} (hM : IsM T.os T.D T.vs) (hN : IsM T.ps T.E T.us) : T.swap.all.length = T.all.length := by
  by_cases hl : T.vs.length = T.us.length
  · have a := all_le hM hN hl
    have b := all_le (T := T.swap) hN hM hl.symm
    exact Nat.le_antisymm b a
  · have e1 : T.all = [] := by unfold Two.all; rw [if_neg hl]
    have e2 : T.swap.all = [] := by unfold Two.all; rw [if_neg (fun h => hl h.symm)]
    rw [e1, e2]
end Go.Proofs.YtonehmjoolflfaaGreatDoor
