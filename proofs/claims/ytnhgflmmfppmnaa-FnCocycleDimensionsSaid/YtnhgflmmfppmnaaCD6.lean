
/- The walk of CocycleDimension of the reference. -/
import Derived.Test.YtnhgflmmfppmnaaCD5
import Derived.Test.YtnhgflmmfppmnaaNa
import Derived.Test.YtnhgflmmfppmnaaIX
namespace Go.Proofs.Ytnhgflmmfppmnaa
open Go Go.RowKit Grp Rk
set_option linter.unusedSimpArgs false
set_option linter.unusedVariables false
set_option maxRecDepth 100000
/-- The equations gathered up to a place. -/
structure EqI (os : List Int) (p : Int) (n : Nat) (rows : List (List Int)) (x y z t : Nat) : Prop where
  all : ∀ r ∈ rows, ∃ a b c d : Nat, (1 ≤ a ∧ a < n) ∧ (1 ≤ b ∧ b < n) ∧ (1 ≤ c ∧ c < n) ∧ (1 ≤ d ∧ d < n) ∧ r = eqRow os p n a b c d
  got : ∀ a b c d : Nat, (1 ≤ a ∧ a < n) → (1 ≤ b ∧ b < n) → (1 ≤ c ∧ c < n) → (1 ≤ d ∧ d < n) → (a < x ∨ (a = x ∧ (b < y ∨ (b = y ∧ (c < z ∨ (c = z ∧ d < t)))))) → eqRow os p n a b c d ∈ rows
  len : rows.length ≤ 1000 * x + 200 * y + 30 * z + t
section
variable {os : List Int} {p : Int} {n : Nat} {rows : List (List Int)} {x y z t : Nat}
theorem EqI.start : EqI os p n [] 1 1 1 1 := ⟨fun r hr => absurd hr (by simp), fun a b c d ha hb hc hd h => absurd h (by omega), by simp⟩
theorem EqI.step (h : EqI os p n rows x y z t) (hx : 1 ≤ x ∧ x < n) (hy : 1 ≤ y ∧ y < n) (hz : 1 ≤ z ∧ z < n) (ht : 1 ≤ t ∧ t < n) : EqI os p n (rows ++ [eqRow os p n x y z t]) x y z (t + 1) := by
  refine ⟨fun r hr => ?_, fun a b c d ha hb hc hd hl => ?_, by have := h.len; simp; omega⟩
  · rcases List.mem_append.1 hr with hr | hr
    · exact h.all r hr
    · exact ⟨x, y, z, t, hx, hy, hz, ht, by simpa using hr⟩
  · by_cases e : a = x ∧ b = y ∧ c = z ∧ d = t
    · obtain ⟨rfl, rfl, rfl, rfl⟩ := e
      simp
    · exact List.mem_append.2 (.inl (h.got a b c d ha hb hc hd (by omega)))
theorem EqI.nz (h : EqI os p n rows x y z n) (h6 : n ≤ 6) : EqI os p n rows x y (z + 1) 1 := ⟨h.all, fun a b c d ha hb hc hd hl => h.got a b c d ha hb hc hd (by omega), by have := h.len; omega⟩
theorem EqI.ny (h : EqI os p n rows x y n 1) (h6 : n ≤ 6) : EqI os p n rows x (y + 1) 1 1 := ⟨h.all, fun a b c d ha hb hc hd hl => h.got a b c d ha hb hc hd (by omega), by have := h.len; omega⟩
theorem EqI.nx (h : EqI os p n rows x n 1 1) (h6 : n ≤ 6) : EqI os p n rows (x + 1) 1 1 1 := ⟨h.all, fun a b c d ha hb hc hd hl => h.got a b c d ha hb hc hd (by omega), by have := h.len; omega⟩
theorem EqI.gen (h : EqI os p n rows n 1 1 1) : GenL rows rows.length = EqG os p n := by
  funext v
  apply propext
  rw [genL_mem]
  constructor
  · rintro ⟨r, hr, rfl⟩
    obtain ⟨a, b, c, d, ha, hb, hc, hd, rfl⟩ := h.all r hr
    exact ⟨a, b, c, d, ha, hb, hc, hd, rfl⟩
  · rintro ⟨a, b, c, d, ha, hb, hc, hd, rfl⟩
    exact ⟨_, h.got a b c d ha hb hc hd (by omega), rfl⟩
end
theorem bump_pm {p : Int} {m : Nat} {row : List Int} {a b c : Nat} : bump p m row a b c (p - 1) = bump p m row a b c (-1) := by
  unfold bump
  split
  · congr 1
    rw [show gi row (ix m a b c) + (p - 1) = gi row (ix m a b c) + -1 + p by omega, Int.add_emod_right]
  · rfl
/-- The places of an equation's five numbers, and their signs. -/
def plA (x y xy : Nat) : Nat → Nat | 0 => y | 1 => xy | _ => x
def plB (y z yz : Nat) : Nat → Nat | 0 => z | 1 => z | 2 => yz | _ => y
def plC (z t zt : Nat) : Nat → Nat | 0 => t | 1 => t | 2 => t | 3 => zt | _ => z
def plV (p : Int) : Nat → Int | 0 => 1 | 1 => p - 1 | 2 => 1 | 3 => p - 1 | _ => 1
def rowI (p : Int) (m M : Nat) (A B C : Nat → Nat) (V : Nat → Int) : Nat → List Int
  | 0 => List.replicate M 0
  | i + 1 => bump p m (rowI p m M A B C V i) (A i) (B i) (C i) (V i)
theorem rowI_in {p : Int} {m M : Nat} {A B C : Nat → Nat} {V : Nat → Int} (hp : 2 ≤ p) : ∀ i, In01 p M (rowI p m M A B C V i)
  | 0 => rep_in hp
  | i + 1 => bump_in hp (rowI_in hp i)
theorem rowI_five {os : List Int} {p : Int} {n x y z t : Nat} : rowI p (n - 1) ((n - 1) * (n - 1) * (n - 1)) (plA x y (An os x y)) (plB y z (An os y z)) (plC z t (An os z t)) (plV p) 5 = eqRow os p n x y z t := by
  unfold eqRow
  simp only [rowI, plA, plB, plC, plV, bump_pm]
theorem plA_lt {x y xy n : Nat} (hx : x < n) (hy : y < n) (hxy : xy < n) (i : Nat) : plA x y xy i < n := by unfold plA; split <;> assumption
theorem plB_lt {y z yz n : Nat} (hy : y < n) (hz : z < n) (hyz : yz < n) (i : Nat) : plB y z yz i < n := by unfold plB; split <;> assumption
theorem plC_lt {z t zt n : Nat} (hz : z < n) (ht : t < n) (hzt : zt < n) (i : Nat) : plC z t zt i < n := by unfold plC; split <;> assumption
theorem plV_rng {p : Int} (hp : 2 ≤ p) (i : Nat) : 1 ≤ plV p i ∧ plV p i < p := by unfold plV; split <;> omega
theorem Wr.cellN {w w' : World} {fp : Nat → Prop} (h : Wr w w' fp) {b : Nat} (hb : b < w.heap.size) (hn : ¬ fp b) (i : Nat) : w'.cell? ⟨b, i, none⟩ = w.cell? ⟨b, i, none⟩ := by simp only [World.cell?, h.block b hb hn]
/-- Where the places lie. -/
def PlAt (W : World) (g6 g : Nat) (A B C : Nat → Nat) (V : Nat → Int) : Prop := ∀ i, i < 5 → ∃ b, W.cell? ⟨g6, i, none⟩ = some (.slice (some ⟨b, 0, none⟩) 4 4) ∧ g < b ∧ b < W.heap.size ∧ W.cell? ⟨b, 0, none⟩ = some (.int .i64 (V i)) ∧ W.cell? ⟨b, 1, none⟩ = some (.int .i64 (A i)) ∧ W.cell? ⟨b, 2, none⟩ = some (.int .i64 (B i)) ∧ W.cell? ⟨b, 3, none⟩ = some (.int .i64 (C i))
set_option maxHeartbeats 8000000 in
theorem specCD_c (w : World) (v0 : Value) (os : ints_T) (H0 : ints_R w w.heap.size v0 os) (S0 : ints_Sh os) (p : Int) (wp : i64ok p) :
    Calls Try.prog 7 #[v0, .int .i64 p] w (Re w (.tuple #[.int .i64 (cdR os p), .int .i64 (spK os p)])) := by
  obtain ⟨A, nn, c, rfl, h⟩ := H0
  obtain rfl := h.len
  have hnn : os.length ≤ 1048576 := S0
  have HK := hide (l17Small_any w A os.length c os p h hnn)
  by_cases hK : spK os p = 0
  rotate_left
  · have hE := hide (show cdR os p = 0 by unfold cdR; rw [if_neg hK])
    obtain ⟨q, hq⟩ : ∃ q, spK os p = q := ⟨_, rfl⟩
    rw [hq] at HK hK ⊢
    have t : (q != 0) = true := by simp [hK]
    rw [hE.out]
    clear hK hq hE
    go_enter Try.func7, Try.ntmps7
    go_wp2_with fail
    refine HK.out.mono ?_
    rintro e w1 ⟨rfl, d, rfl⟩
    go_wp2_with fail
    refine bodyPost_ret (v := .tuple #[.int .i64 0, .int .i64 q]) (by simp [results, Try.results7, go_sem]) rfl ?_
    exact ⟨rfl, below_drewN (Below.refl _ _) _⟩
  obtain ⟨hO, hp6, hp4⟩ := spK_0 hK
  have hpr := hp4.rng
  have hpos := prodL_pos hO.2
  obtain ⟨n, hn⟩ : ∃ n : Nat, (prodL os).toNat = n := ⟨_, rfl⟩
  have hpn : (n : Int) = prodL os := by omega
  have hH := okH_of hO hnn (by omega)
  have hE : cdR os p = ((((n - 1) * (n - 1) * (n - 1) : Nat) : Int) - (rkN p ((n - 1) * (n - 1) * (n - 1)) (EqG os p n) : Int)) := by unfold cdR; rw [if_pos hK, hn]
  have HZ := hide (fun W (hW : Below w.heap.size w W) => by
    have h9 := l17Size_any W w.heap.size A os.length c os (h.below hW) hnn hO.2
    rw [show min (9 : Int) (prodL os) = (n : Int) by omega] at h9
    exact h9)
  have hn1 : 1 ≤ n := by omega
  have hn6 : n ≤ 6 := by omega
  rw [hK] at HK ⊢
  have HAd := hide (fun W (hW : Below w.heap.size w W) (x y : Nat) (hx : x ≤ 100) (hy : y ≤ 100) => by
    have h9 := l06Add_any W w.heap.size A os.length c os x y (h.below hW) hH (by omega) (by omega) (by omega) (by omega)
    rw [An_eq hH x y] at h9
    exact h9)
  have HAl := hide (fun x y => An_lt hH hpn x y)
  have HE := hide hE
  obtain ⟨m, hm⟩ : ∃ m : Nat, n - 1 = m := ⟨_, rfl⟩
  have hm5 : m ≤ 5 := by omega
  have hnm : n = m + 1 := by omega
  have hw1 : IntKind.i64.wrap ((n : Int) - 1) = (m : Int) := (wr64 _ ⟨by omega, by omega⟩).trans (by omega)
  obtain ⟨M2, hM2⟩ : ∃ M2 : Nat, m * m = M2 := ⟨_, rfl⟩
  have hM25 : M2 ≤ 25 := by rw [← hM2]; exact Nat.mul_le_mul hm5 hm5
  obtain ⟨M3, hM3⟩ : ∃ M3 : Nat, M2 * m = M3 := ⟨_, rfl⟩
  have hM35 : M3 ≤ 125 := by rw [← hM3]; exact Nat.mul_le_mul hM25 hm5
  have hw2 : IntKind.i64.wrap ((m : Int) * (m : Int)) = (M2 : Int) := by rw [← Int.natCast_mul, hM2]; exact wr64 _ ⟨by omega, by omega⟩
  have hw3 : IntKind.i64.wrap ((M2 : Int) * (m : Int)) = (M3 : Int) := by rw [← Int.natCast_mul, hM3]; exact wr64 _ ⟨by omega, by omega⟩
  have HM := hide (show (n - 1) * (n - 1) * (n - 1) = M3 by rw [hm, hM2, hM3])
  have HNM := hide hnm
  have HM1 := hide hm
  rw [HM.out] at HE
  clear hn hpn hE hm hM2 hM3 hp6 hpos hK hnm
  go_enter Try.func7, Try.ntmps7
  go_wp2_with fail
  refine HK.out.mono ?_
  rintro e w1 ⟨rfl, d, rfl⟩
  go_wp2_with fail
  refine (HZ.out _ (below_drewN (Below.refl _ _) _)).mono ?_
  rintro e w1 ⟨rfl, d2, rfl⟩
  go_wp2_with fail
  have hG0 : Grow E1 24 w.heap.size (World.alloc (World.drewN w (d + d2)) (.cells #[] 24)) (.slice (some ⟨w.heap.size, 0, none⟩) 0 0) ([] : List (List Int)) := Grow.start rfl (Nat.le_refl _)
  have hB0 : Below w.heap.size w (World.alloc (World.drewN w (d + d2)) (.cells #[] 24)) := (below_drewN (Below.refl _ _) _).alloc (Nat.le_refl _) _
  obtain ⟨W, hW⟩ : ∃ W, World.alloc (World.drewN w (d + d2)) (.cells #[] 24) = W := ⟨_, rfl⟩
  rw [hW] at hG0 hB0 ⊢
  clear hW
  have hI0 := hide (EqI.start (os := os) (p := p) (n := n))
  go_loopw [9, 10] (fun o i wr => ∃ (x : Nat) (vE : Value) (rows : List (List Int)), 1 ≤ x ∧ x ≤ n ∧ vE = o ∧ i = .int .i64 x ∧ Grow E1 24 w.heap.size wr vE rows ∧ Below w.heap.size w wr ∧ Hid (EqI os p n rows x 1 1 1)) (fun _ i _ => n - (intOf i).toNat)
  case atStart => exact ⟨1, _, _, by omega, by omega, rfl, rfl, hG0, hB0, hI0⟩
  case round =>
    clear hG0 hB0 hI0
    obtain ⟨x, vE, rows, hx1, hxn, rfl, rfl, hG, hB, HI⟩ := hrel
    by_cases hlx : x < n
    · go_wp2_with fail
      go_loopw [9, 11] (fun o i wr => ∃ (y : Nat) (vE : Value) (rows : List (List Int)), 1 ≤ y ∧ y ≤ n ∧ vE = o ∧ i = .int .i64 y ∧ Grow E1 24 w.heap.size wr vE rows ∧ Below w.heap.size w wr ∧ Hid (EqI os p n rows x y 1 1)) (fun _ i _ => n - (intOf i).toNat)
      case atStart => exact ⟨1, _, _, by omega, by omega, rfl, rfl, hG, hB, HI⟩
      case round =>
        clear hG hB HI
        obtain ⟨y, vE, rows, hy1, hyn, rfl, rfl, hG, hB, HI⟩ := hrel
        by_cases hly : y < n
        · go_wp2_with fail
          go_loopw [9, 12] (fun o i wr => ∃ (z : Nat) (vE : Value) (rows : List (List Int)), 1 ≤ z ∧ z ≤ n ∧ vE = o ∧ i = .int .i64 z ∧ Grow E1 24 w.heap.size wr vE rows ∧ Below w.heap.size w wr ∧ Hid (EqI os p n rows x y z 1)) (fun _ i _ => n - (intOf i).toNat)
          case atStart => exact ⟨1, _, _, by omega, by omega, rfl, rfl, hG, hB, HI⟩
          case round =>
            clear hG hB HI
            obtain ⟨z, vE, rows, hz1, hzn, rfl, rfl, hG, hB, HI⟩ := hrel
            by_cases hlz : z < n
            · go_wp2_with fail
              go_loopw [9, 13] (fun o i wr => ∃ (t : Nat) (vE : Value) (rows : List (List Int)), 1 ≤ t ∧ t ≤ n ∧ vE = o ∧ i = .int .i64 t ∧ Grow E1 24 w.heap.size wr vE rows ∧ Below w.heap.size w wr ∧ Hid (EqI os p n rows x y z t)) (fun _ i _ => n - (intOf i).toNat)
              case atStart => exact ⟨1, _, _, by omega, by omega, rfl, rfl, hG, hB, HI⟩
              case round =>
                clear hG hB HI
                obtain ⟨t, vE, rows, ht1, htn, rfl, rfl, hG, hB, HI⟩ := hrel
                by_cases hlt : t < n
                · have hmk := fun W => run_make (P := Try.prog) (w := W) 24 2 (info_parts int_info).choose (.int .i64 0) Try.underlying24 (info_parts int_info).choose_spec.1 (info_parts int_info).choose_spec.2.1 .i64 .i64 M3 M3 (by omega) (by omega) (by rw [(info_parts int_info).choose_spec.2.2.2]; omega) (by omega)
                  simp only [(info_parts int_info).choose_spec.2.2.1, Int.toNat_natCast, Nat.mul_one] at hmk
                  have hsz := hB.size
                  go_wp2_with fail
                  clear hmk
                  have hR1 := E1.zeros wr M3 wr.heap.size rfl (by unfold maxLen; omega)
                  have hb1 : Below wr.heap.size wr (wr.alloc (.cells (madeCells #[.int .i64 0] M3) 2)) := (Below.refl _ _).alloc (Nat.le_refl _) _
                  obtain ⟨w1, hw1'⟩ : ∃ w1, wr.alloc (.cells (madeCells #[.int .i64 0] M3) 2) = w1 := ⟨_, rfl⟩
                  have hs1 : w1.heap.size = wr.heap.size + 1 := by rw [← hw1']; simp
                  rw [hw1'] at hR1 hb1 ⊢
                  clear hw1'
                  obtain ⟨xy, hxy⟩ : ∃ i, An os x y = i := ⟨_, rfl⟩
                  obtain ⟨yz, hyz⟩ : ∃ i, An os y z = i := ⟨_, rfl⟩
                  obtain ⟨zt, hzt⟩ : ∃ i, An os z t = i := ⟨_, rfl⟩
                  have lxy : xy < n := by rw [← hxy]; exact HAl.out x y
                  have lyz : yz < n := by rw [← hyz]; exact HAl.out y z
                  have lzt : zt < n := by rw [← hzt]; exact HAl.out z t
                  have A1 := hide (fun (W : World) (hW : Below w.heap.size w W) => hxy ▸ HAd.out W hW x y (by omega) (by omega))
                  have A2 := hide (fun (W : World) (hW : Below w.heap.size w W) => hyz ▸ HAd.out W hW y z (by omega) (by omega))
                  have A3 := hide (fun (W : World) (hW : Below w.heap.size w W) => hzt ▸ HAd.out W hW z t (by omega) (by omega))
                  have HXY := hide hxy
                  have HYZ := hide hyz
                  have HZT := hide hzt
                  clear hxy hyz hzt
                  have hbw := hB.trans (hb1.mono hsz)
                  refine (A1.out _ hbw).mono ?_
                  rintro e w2 ⟨rfl, d3, rfl⟩
                  go_wp2_with fail
                  refine (A2.out _ (below_drewN hbw _)).mono ?_
                  rintro e w2 ⟨rfl, d4, rfl⟩
                  go_wp2_with fail
                  refine (A3.out _ (below_drewN hbw _)).mono ?_
                  rintro e w2 ⟨rfl, d5, rfl⟩
                  have hp1 : IntKind.i64.wrap (p - 1) = p - 1 := wr64 _ ⟨by omega, by omega⟩
                  go_wp2_with fail
                  obtain ⟨w6, hw6⟩ : ∃ w6, World.drewN w1 (d3 + d4 + d5) = w6 := ⟨_, rfl⟩
                  have hb16 : Below w1.heap.size w1 w6 := by rw [← hw6]; exact below_drewN (Below.refl _ _) _
                  obtain ⟨g, hg⟩ : ∃ g, wr.heap.size = g := ⟨_, rfl⟩
                  have hs6 : w6.heap.size = g + 1 := by rw [← hw6]; show w1.heap.size = g + 1; omega
                  have hR6 := E1.below hR1 hb16
                  (try rw [hw6])
                  (try rw [hg])
                  rw [hg] at hR6
                  obtain ⟨W5, hW5⟩ : ∃ W5, (((((w6.alloc (.cells #[.int .i64 1, .int .i64 y, .int .i64 z, .int .i64 t] 2)).alloc (.cells #[.int .i64 (p - 1), .int .i64 xy, .int .i64 z, .int .i64 t] 2)).alloc (.cells #[.int .i64 1, .int .i64 x, .int .i64 yz, .int .i64 t] 2)).alloc (.cells #[.int .i64 (p - 1), .int .i64 x, .int .i64 y, .int .i64 zt] 2)).alloc (.cells #[.int .i64 1, .int .i64 x, .int .i64 y, .int .i64 z] 2)).alloc (.cells #[.slice (some ⟨g + 1, 0, none⟩) 4 4, .slice (some ⟨g + 1 + 1, 0, none⟩) 4 4, .slice (some ⟨g + 1 + 1 + 1, 0, none⟩) 4 4, .slice (some ⟨g + 1 + 1 + 1 + 1, 0, none⟩) 4 4, .slice (some ⟨g + 1 + 1 + 1 + 1 + 1, 0, none⟩) 4 4] 24) = W5 := ⟨_, rfl⟩
                  have pb0 : Blk W5 (g + 1) 2 #[.int .i64 1, .int .i64 y, .int .i64 z, .int .i64 t] := by rw [← hW5]; exact (((((Blk.new' _ _ _ _ hs6).alloc _).alloc _).alloc _).alloc _).alloc _
                  have pb1 : Blk W5 (g + 1 + 1) 2 #[.int .i64 (p - 1), .int .i64 xy, .int .i64 z, .int .i64 t] := by rw [← hW5]; exact ((((Blk.new' _ _ _ _ (by simp; omega)).alloc _).alloc _).alloc _).alloc _
                  have pb2 : Blk W5 (g + 1 + 1 + 1) 2 #[.int .i64 1, .int .i64 x, .int .i64 yz, .int .i64 t] := by rw [← hW5]; exact (((Blk.new' _ _ _ _ (by simp; omega)).alloc _).alloc _).alloc _
                  have pb3 : Blk W5 (g + 1 + 1 + 1 + 1) 2 #[.int .i64 (p - 1), .int .i64 x, .int .i64 y, .int .i64 zt] := by rw [← hW5]; exact ((Blk.new' _ _ _ _ (by simp; omega)).alloc _).alloc _
                  have pb4 : Blk W5 (g + 1 + 1 + 1 + 1 + 1) 2 #[.int .i64 1, .int .i64 x, .int .i64 y, .int .i64 z] := by rw [← hW5]; exact (Blk.new' _ _ _ _ (by simp; omega)).alloc _
                  have pb5 : Blk W5 (g + 1 + 1 + 1 + 1 + 1 + 1) 24 #[.slice (some ⟨g + 1, 0, none⟩) 4 4, .slice (some ⟨g + 1 + 1, 0, none⟩) 4 4, .slice (some ⟨g + 1 + 1 + 1, 0, none⟩) 4 4, .slice (some ⟨g + 1 + 1 + 1 + 1, 0, none⟩) 4 4, .slice (some ⟨g + 1 + 1 + 1 + 1 + 1, 0, none⟩) 4 4] := by rw [← hW5]; exact Blk.new' _ _ _ _ (by simp; omega)
                  have hb6W : Below w6.heap.size w6 W5 := by rw [← hW5]; exact (by repeat (first | assumption | exact Below.refl _ _ | apply below_drewN | apply Below.drew | apply Below.alloc | apply Below.setCell | omega | (focus (simp; done)) | (focus (simp; omega))))
                  have hPL : PlAt W5 (g + 1 + 1 + 1 + 1 + 1 + 1) g (plA x y xy) (plB y z yz) (plC z t zt) (plV p) := fun i hi => by
                    have h5 : i = 0 ∨ i = 1 ∨ i = 2 ∨ i = 3 ∨ i = 4 := by omega
                    rcases h5 with rfl | rfl | rfl | rfl | rfl
                    · exact ⟨g + 1, pb5.cell 0, by omega, pb0.lt, pb0.cell 0, pb0.cell 1, pb0.cell 2, pb0.cell 3⟩
                    · exact ⟨g + 1 + 1, pb5.cell 1, by omega, pb1.lt, pb1.cell 0, pb1.cell 1, pb1.cell 2, pb1.cell 3⟩
                    · exact ⟨g + 1 + 1 + 1, pb5.cell 2, by omega, pb2.lt, pb2.cell 0, pb2.cell 1, pb2.cell 2, pb2.cell 3⟩
                    · exact ⟨g + 1 + 1 + 1 + 1, pb5.cell 3, by omega, pb3.lt, pb3.cell 0, pb3.cell 1, pb3.cell 2, pb3.cell 3⟩
                    · exact ⟨g + 1 + 1 + 1 + 1 + 1, pb5.cell 4, by omega, pb4.lt, pb4.cell 0, pb4.cell 1, pb4.cell 2, pb4.cell 3⟩
                  have HPL := hide hPL
                  have hg6l := pb5.lt
                  obtain ⟨g6, hg6⟩ : ∃ g6, g + 1 + 1 + 1 + 1 + 1 + 1 = g6 := ⟨_, rfl⟩
                  have hRW := E1.below hR6 hb6W
                  have hro0 : Ow W5 0 (.slice (some ⟨g, 0, none⟩) M3 M3) (rowI p m M3 (plA x y xy) (plB y z yz) (plC z t zt) (plV p) 0) := hRW.own
                  have hbWr : Below wr.heap.size wr W5 := (hb1.trans (hb16.mono hb1.size)).trans (hb6W.mono (hb1.trans (hb16.mono hb1.size)).size)
                  rw [hW5, hg6]
                  rw [hg6] at HPL hg6l
                  have hgg6 : g < g6 := by omega
                  have hrowin := hide (fun i => rowI_in (m := m) (M := M3) (A := plA x y xy) (B := plB y z yz) (C := plC z t zt) (V := plV p) hpr.1 i)
                  have HplA := hide (plA_lt hlx hly lxy)
                  have HplB := hide (plB_lt hly hlz lyz)
                  have HplC := hide (plC_lt hlz hlt lzt)
                  have HplV := hide (plV_rng hpr.1)
                  have hfive := hide (show rowI p m M3 (plA x y xy) (plB y z yz) (plC z t zt) (plV p) 5 = eqRow os p n x y z t by
                    have h9 := rowI_five (os := os) (p := p) (n := n) (x := x) (y := y) (z := z) (t := t)
                    rw [HM.out, HM1.out, HXY.out, HYZ.out, HZT.out] at h9
                    exact h9)
                  obtain ⟨PA, hPA⟩ : ∃ f, plA x y xy = f := ⟨_, rfl⟩
                  obtain ⟨PB, hPB⟩ : ∃ f, plB y z yz = f := ⟨_, rfl⟩
                  obtain ⟨PC, hPC⟩ : ∃ f, plC z t zt = f := ⟨_, rfl⟩
                  obtain ⟨PV, hPV⟩ : ∃ f, plV p = f := ⟨_, rfl⟩
                  simp only [hPA, hPB, hPC, hPV] at HPL hro0 hrowin hfive HplA HplB HplC HplV
                  obtain ⟨RI, hRI⟩ : ∃ f, rowI p m M3 PA PB PC PV = f := ⟨_, rfl⟩
                  have hstep := hide (show ∀ i, RI (i + 1) = bump p m (RI i) (PA i) (PB i) (PC i) (PV i) from fun i => by rw [← hRI]; rfl)
                  simp only [hRI] at hro0 hrowin hfive
                  clear hPA hPB hPC hPV hRI pb0 pb1 pb2 pb3 pb4 pb5 hW5 hb6W hPL hg6 hRW hR6 hR1 hs6 hw6 hb16 hbw hp1 hb1 hs1 A1 A2 A3 HXY HYZ HZT lxy lyz lzt
                  obtain ⟨w0, rfl⟩ : ∃ w0, w0 = wr := ⟨_, rfl⟩
                  go_loopw [19] (fun i wx => ∃ k : Nat, k ≤ 5 ∧ i = .int .i64 k ∧ Ow wx 0 (.slice (some ⟨g, 0, none⟩) M3 M3) (RI k) ∧ Wr W5 wx (fun b => b = g)) (fun i _ => 5 - (intOf i).toNat)
                  case atStart => exact ⟨0, by omega, rfl, hro0, Wr.refl _ _⟩
                  case round =>
                    clear hro0
                    obtain ⟨k, hk, rfl, hro, hwx⟩ := hrel
                    by_cases hlk : k < 5
                    · obtain ⟨b, e0, hgb, hbl, e1, e2, e3, e4⟩ := HPL.out k hlk
                      have hwl := hwx.size
                      have hg5 : g6 < wr.heap.size := by omega
                      have hb5l : b < wr.heap.size := by omega
                      have E0 := hide ((hwx.cellN hg6l (by omega) k).trans e0)
                      have E1' := hide ((hwx.cellN hbl (by omega) 0).trans e1)
                      have E2' := hide ((hwx.cellN hbl (by omega) 1).trans e2)
                      have E3' := hide ((hwx.cellN hbl (by omega) 2).trans e3)
                      have E4' := hide ((hwx.cellN hbl (by omega) 3).trans e4)
                      have lA := HplA.out k
                      have lB := HplB.out k
                      have lC := HplC.out k
                      have lV := HplV.out k
                      have hst := hstep.out k
                      have hin := hrowin.out k
                      obtain ⟨row, hrow⟩ : ∃ r, RI k = r := ⟨_, rfl⟩
                      obtain ⟨row2, hrow2⟩ : ∃ r, RI (k + 1) = r := ⟨_, rfl⟩
                      obtain ⟨ak, hak⟩ : ∃ r, PA k = r := ⟨_, rfl⟩
                      obtain ⟨bk, hbk⟩ : ∃ r, PB k = r := ⟨_, rfl⟩
                      obtain ⟨ck, hck⟩ : ∃ r, PC k = r := ⟨_, rfl⟩
                      obtain ⟨vk, hvk⟩ : ∃ r, PV k = r := ⟨_, rfl⟩
                      rw [hrow, hrow2, hak, hbk, hck, hvk] at hst
                      rw [hrow] at hin hro
                      rw [hak] at E2' lA
                      rw [hbk] at E3' lB
                      rw [hck] at E4' lC
                      rw [hvk] at E1' lV
                      have HST := hide hst
                      have HROW2 := hide hrow2
                      have HIN := hide hin
                      have HRO := hide hro
                      have HWX := hide hwx
                      obtain ⟨w8, rfl⟩ : ∃ w8, w8 = wr := ⟨_, rfl⟩
                      clear e0 e1 e2 e3 e4 hst hin hrow hrow2 hak hbk hck hvk hro hwx
                      go_wp2_with fail
                      refine wp_region_be [0, 1, 2, 3, 4, 5, 6, 7, 8, 9, 10, 11, 12, 13, 14, 15, 16, 17, 18, 19, 20] 20 w8.heap.size w8 (by kernel_rfl) (by kernel_rfl) (by kernel_rfl) (fun _ _ _ _ _ h => h) (Below.refl _ _) (fun wd hBe => ?_)
                      repeat (first | (apply ord_tk rfl (by rfl) (by rfl) (by rfl); (focus (intro wx hSw; have r0 := (hSw.cell (p := ⟨g6, k, none⟩) hg5).trans E0.out; have r1 := (hSw.cell (p := ⟨b, 1, none⟩) hb5l).trans E2'.out; have r2 := (hSw.cell (p := ⟨b, 2, none⟩) hb5l).trans E3'.out; have r3 := (hSw.cell (p := ⟨b, 3, none⟩) hb5l).trans E4'.out; go_simp; (try with_reducible rfl))); (try simp only [Act.put, List.setIfInBounds_toArray, List.set_cons_zero, List.set_cons_succ])) | (apply ord_skip rfl (by rfl) (by rfl) (fun _ => hBe); (try simp only [Act.put, List.setIfInBounds_toArray, List.set_cons_zero, List.set_cons_succ])))
                      refine ord_do rfl (by rfl) (by rfl) (fun K hK => ?_)
                      go_simp
                      refine hK.out _ _ (fun h => absurd h (by omega)) ?_
                      (try simp only [Act.put, List.setIfInBounds_toArray, List.set_cons_zero, List.set_cons_succ])
                      clear hK K
                      refine ord_nil ?_
                      have hbB := hBe
                      clear hBe
                      by_cases hyes : 0 < ak ∧ 0 < bk ∧ 0 < ck
                      · obtain ⟨h1, h2, h3⟩ := hyes
                        have hmn := HNM.out
                        obtain ⟨B1, B2, B3, B4, B5, B6, q1, q2, q3, q4, q5, q6, q7⟩ := ix_chain (m := m) (a := ak) (b := bk) (c := ck) hm5 h1 (by omega) h2 (by omega) h3 (by omega)
                        have hix := ix_lt (m := m) h1 (by omega) h2 (by omega) h3 (by omega)
                        have hb2 := HST.out
                        rw [bump_yes ⟨h1, h2, h3⟩] at hb2
                        clear hmn
                        obtain ⟨I, hI⟩ : ∃ I, ix m ak bk ck = I := ⟨_, rfl⟩
                        rw [hI] at q7 hix hb2
                        have hmm3 : m * m * m = M3 := by rw [← HM1.out]; exact HM.out
                        rw [hmm3] at hix
                        have hlen : M3 = row.length := HIN.out.1.symm
                        have c1 := (HRO.out.below hbB).cell hlen hix
                        have hv := HIN.out.2 I hix
                        obtain ⟨u, eu⟩ : ∃ u, gi row I = u := ⟨_, rfl⟩
                        rw [eu] at c1 hv hb2
                        have s1 : IntKind.i64.wrap (u + vk) = u + vk := wr64 _ ⟨by omega, by omega⟩
                        have s2 : (u + vk).tmod p = (u + vk) % p := Int.tmod_eq_emod_of_nonneg (by omega)
                        have s3 : ¬ p = 0 := by omega
                        obtain ⟨yv, hyv⟩ : ∃ yv, (u + vk) % p = yv := ⟨_, rfl⟩
                        rw [hyv] at s2 hb2
                        have HB2 := hide hb2
                        have C1 := hide c1
                        have HLEN := hide hlen
                        have lg : g < wd.heap.size := World.block_lt_of_cell? _ _ c1
                        have hg5d : g6 < wd.heap.size := by have := hbB.size; omega
                        have hb5d : b < wd.heap.size := by have := hbB.size; omega
                        have E0d := hide ((hbB.cell (p := ⟨g6, k, none⟩) hg5).trans E0.out)
                        have E1d := hide ((hbB.cell (p := ⟨b, 0, none⟩) hb5l).trans E1'.out)
                        have HROd := hide (HRO.out.below hbB)
                        have HWd := hide (HWX.out.trans (Wr.of_below hbB))
                        clear hI hmm3 hlen c1 eu hyv hb2 E0 E1' E2' E3' E4' HRO HWX
                        obtain ⟨w9, rfl⟩ : ∃ w9, w9 = wd := ⟨_, rfl⟩
                        go_wp2_with fail
                        clear q1 q2 q3 q4 q5 q6 q7
                        refine wp_region_be [0, 1, 2, 3, 4, 5, 6, 7, 8, 9, 10, 11, 12, 13, 14, 15, 16] 15 w9.heap.size w9 (by kernel_rfl) (by kernel_rfl) (by kernel_rfl) (fun _ _ _ _ _ h => h) (Below.refl _ _) (fun wd hBe => ?_)
                        repeat (first | (apply ord_tk rfl (by rfl) (by rfl) (by rfl); (focus (intro wx hSw; have r0 := (hSw.cell (p := ⟨g6, k, none⟩) hg5d).trans E0d.out; have r1 := (hSw.cell (p := ⟨b, 0, none⟩) hb5d).trans E1d.out; have r2 := (hSw.cell (p := ⟨g, I, none⟩) lg).trans C1.out; go_simp; (try with_reducible rfl))); (try simp only [Act.put, List.setIfInBounds_toArray, List.set_cons_zero, List.set_cons_succ])) | (apply ord_skip rfl (by rfl) (by rfl) (fun _ => hBe); (try simp only [Act.put, List.setIfInBounds_toArray, List.set_cons_zero, List.set_cons_succ])))
                        have hOd := HROd.out.below hBe
                        have z2 := (hBe.cell (p := ⟨g, I, none⟩) lg).trans C1.out
                        have z3 := hOd.frozen HLEN.out I
                        have HF := hide (show Ow (wd.setCell ⟨g, I, none⟩ (.int .i64 yv)) 0 (.slice (some ⟨g, 0, none⟩) M3 M3) (RI (k + 1)) by rw [HROW2.out, HB2.out]; exact hOd.store HLEN.out I yv)
                        have HW2 := hide ((HWd.out.trans (Wr.of_below hBe)).trans (w'' := wd.setCell ⟨g, I, none⟩ (.int .i64 yv)) ⟨rfl, rfl, rfl, by simp [World.setCell], fun b' _ hn => Below.heap_setCell _ ⟨g, I, none⟩ _ b' (fun e => hn e)⟩)
                        clear hOd
                        refine ord_do rfl (by rfl) (by rfl) (fun K hK => ?_)
                        go_simp
                        refine hK.out _ _ (fun h => absurd h (by omega)) ?_
                        (try simp only [Act.put, List.setIfInBounds_toArray, List.set_cons_zero, List.set_cons_succ])
                        clear hK K
                        refine ord_do rfl (by rfl) (by rfl) (fun K hK => ?_)
                        go_simp
                        refine hK.out _ _ (fun h => absurd h (by omega)) ?_
                        (try simp only [Act.put, List.setIfInBounds_toArray, List.set_cons_zero, List.set_cons_succ])
                        clear hK K
                        refine ord_nil ?_
                        clear z2 z3 s1 s2 s3
                        go_wp2_with fail
                        go_roundw
                        case rel => exact ⟨k + 1, by omega, by go_num, HF.out, HW2.out⟩
                        case measure => simp [intOf] <;> omega
                      · have hno : row2 = row := by rw [HST.out, bump_no hyes]
                        have HF := hide (show Ow wd 0 (.slice (some ⟨g, 0, none⟩) M3 M3) (RI (k + 1)) by rw [HROW2.out, hno]; exact HRO.out.below hbB)
                        have HW2 := hide (HWX.out.trans (Wr.of_below hbB))
                        clear hno E0 E1' E2' E3' E4' HRO HWX hbB
                        by_cases h1 : 0 < ak
                        · by_cases h2 : 0 < bk
                          · have h3 : ¬ 0 < ck := fun h3 => hyes ⟨h1, h2, h3⟩
                            clear hyes
                            go_wp2_with fail
                            go_roundw
                            case rel => exact ⟨k + 1, by omega, by go_num, HF.out, HW2.out⟩
                            case measure => simp [intOf] <;> omega
                          · clear hyes
                            go_wp2_with fail
                            go_roundw
                            case rel => exact ⟨k + 1, by omega, by go_num, HF.out, HW2.out⟩
                            case measure => simp [intOf] <;> omega
                        · clear hyes
                          go_wp2_with fail
                          go_roundw
                          case rel => exact ⟨k + 1, by omega, by go_num, HF.out, HW2.out⟩
                          case measure => simp [intOf] <;> omega
                    · obtain rfl : k = 5 := by omega
                      rw [hfive.out] at hro
                      have hin := eqRow_in (os := os) (n := n) (x := x) (y := y) (z := z) (t := t) hpr.1
                      rw [HM.out] at hin
                      have hwl := hwx.size
                      have hbx := hbWr.trans (hwx.below (B := w0.heap.size) (fun b hb => by rw [hb]; omega) hbWr.size)
                      have hE5 : E1 wr (.slice (some ⟨g, 0, none⟩) M3 M3) (eqRow os p n x y z t) (fun b => b = g) := ⟨hro, hin.ok (by omega), fun b hb => by simp only [Value.ownBlock, Option.some.injEq] at hb; exact hb.symm, fun b hb => by rw [hb]; omega⟩
                      have hbw := hbx.alloc hbx.size (.cells #[.slice (some ⟨g, 0, none⟩) M3 M3] 24)
                      have hE6 := E1.below hE5 ((Below.refl _ _).alloc (Nat.le_refl _) (.cells #[.slice (some ⟨g, 0, none⟩) M3 M3] 24))
                      have hlen := HI.out.len
                      have HIN := hide (HI.out.step ⟨hx1, hlx⟩ ⟨hy1, hly⟩ ⟨hz1, hlz⟩ ⟨ht1, hlt⟩)
                      clear hin hE5 hro hwx hbx hbWr
                      go_wp2_with (at_builtin; refine list_pushG kp1 39 24 _ 24 Try.underlying39 rows_info (by omega) rfl _ rfl _ _ rfl w.heap.size vE _ rfl w0 hG hbw (.slice (some ⟨g, 0, none⟩) M3 M3) _ _ hE6 (fun b hb => by rw [hb]; exact ⟨by omega, by simp; omega⟩) rfl wr.heap.size _ rfl (Blk.new _ _ _) (by omega) hsz (by simp) ?_; intro g7 cap7 w7 hG7 hB7 hW7 hg7 hg8)
                      have HBX := hide ((hB.trans (hbw.mono hB.size)).trans hB7)
                      clear hB7 hW7 hE6 hbw hlen hG hB HI
                      go_roundw
                      case rel => exact ⟨t + 1, _, _, by omega, by omega, rfl, by go_num, hG7, HBX.out, HIN⟩
                      case measure => simp [intOf] <;> omega
                · obtain rfl : n = t := by omega
                  have HI2 := hide (HI.out.nz hn6)
                  go_wp2_with fail
                  go_roundw
                  case rel => exact ⟨z + 1, _, _, by omega, by omega, rfl, by go_num, hG, hB, HI2⟩
                  case measure => simp [intOf] <;> omega
            · obtain rfl : n = z := by omega
              have HI2 := hide (HI.out.ny hn6)
              go_wp2_with fail
              go_roundw
              case rel => exact ⟨y + 1, _, _, by omega, by omega, rfl, by go_num, hG, hB, HI2⟩
              case measure => simp [intOf] <;> omega
        · obtain rfl : n = y := by omega
          have HI2 := hide (HI.out.nx hn6)
          go_wp2_with fail
          go_roundw
          case rel => exact ⟨x + 1, _, _, by omega, by omega, rfl, by go_num, hG, hB, HI2⟩
          case measure => simp [intOf] <;> omega
    · obtain rfl : n = x := by omega
      have hGL := HI.out.gen
      have hin : ∀ r ∈ rows, In01 p M3 r := fun r hr => by
        obtain ⟨a, b, c, d, _, _, _, _, rfl⟩ := HI.out.all r hr
        rw [← HM.out]
        exact eqRow_in hpr.1
      have hlen := HI.out.len
      obtain ⟨AE, cE, rfl, sE⟩ := E2.sl2 (show E2 wr vE rows _ from hG.toL)
      have HGL := hide hGL
      clear hGL
      go_wp2_with fail
      refine (l17Rank_any wr p AE rows.length cE rows M3 sE (by omega) (by omega) hp4 hin).mono ?_
      rintro e w1 ⟨r, rfl, hrk, hb1⟩
      rw [HGL.out] at hrk
      have hrl := hasRk_le hrk
      have hrv := rkN_eq hp4.isP hrk
      have hw4 : IntKind.i64.wrap ((M3 : Int) - (r : Int)) = (M3 : Int) - r := wr64 _ ⟨by omega, by omega⟩
      have HRV := hide hrv
      clear hrk hrv
      go_wp2_with fail
      refine bodyPost_ret (v := .tuple #[.int .i64 ((M3 : Int) - r), .int .i64 0]) (by simp [results, Try.results7, go_sem]) rfl ?_
      exact ⟨by rw [HE.out, HRV.out], hB.trans (hb1.mono hB.size)⟩
end Go.Proofs.Ytnhgflmmfppmnaa
