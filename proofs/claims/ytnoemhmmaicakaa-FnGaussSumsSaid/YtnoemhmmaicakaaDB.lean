
/- Draws: l09Orders2, the orders of a group. -/
import Derived.Test.YtnoemhmmaicakaaDA
import Derived.Test.YtnoemhmmaicakaaGa
import Derived.Test.YtnoemhmmaicakaaSa
import Derived.WalkLawsBesides
namespace Go.Proofs.Ytnoemhmmaicakaa
open Go Go.RowKit Grp
set_option linter.unusedSimpArgs false
set_option linter.unusedVariables false

theorem grown_below {w w1 w2 : World} {row : Option Nat} (h : w.grownBy w1 row) (k : Below w.heap.size w1 w2) : w.grownBy w2 row :=
  ⟨k.os.trans h.os, k.tape.trans h.tape, k.output.trans h.output, Nat.le_trans h.size k.size, fun b hb hne => (k.block b hb).trans (h.block b hb hne)⟩
theorem pick_mem {ys : List Int} {x lo hi : Int} (hx : x ∈ ys) (h : (ys.all fun y => decide (lo ≤ y) && decide (y ≤ hi)) = true) : lo ≤ x ∧ x ≤ hi := by
  have := List.all_eq_true.1 h x hx
  simpa using this
/-- It drew a list of its own. -/
def DrO (w0 : World) (B S : Nat) (A : Option Addr) (n c lo : Nat) (w : World) (P : List Int → Prop) (e : Ending) (w' : World) : Prop :=
  ∃ v os, e = .returned v ∧ Ow w' w.heap.size v os ∧ P os ∧ Src w0 B S A n c lo w' ∧ w.grownBy w' (some S)
theorem SrcX.push {w0 w w' : World} {B C S : Nat} {A : Option Addr} {n c a : Nat} {h : Int} {v : Value} {xs : List Int} {y : Int} {H g cap : Nat} (hs : SrcX w0 B S A n c a h w) (hP : Pushed w C v xs y H g cap w') (hO : Ow w C v xs) (hBC : B ≤ C) (hC : C ≤ w.heap.size) : SrcX w0 B S A n c a h w' :=
  ⟨hs.h0, hs.h1, hs.ha, hP.blk hO hs.blk (by decide), hs.below.trans ((hP.below hO hC).mono hBC), hs.hS⟩
theorem SrcX.ne {w0 w : World} {B S C : Nat} {A : Option Addr} {n c a : Nat} {h : Int} {v : Value} {xs : List Int} (hs : SrcX w0 B S A n c a h w) (hO : Ow w C v xs) : ∀ b, v.ownBlock = some b → some S ≠ some b := by
  intro b hb' e
  exact hO.blk_ne hs.blk (by decide) (by rw [hb']; exact e.symm)
theorem Src.push {w0 w w' : World} {B C S : Nat} {A : Option Addr} {n c lo : Nat} {v : Value} {xs : List Int} {y : Int} {H g cap : Nat} (h : Src w0 B S A n c lo w) (hP : Pushed w C v xs y H g cap w') (hO : Ow w C v xs) (hBC : B ≤ C) (hC : C ≤ w.heap.size) : Src w0 B S A n c lo w' := by
  obtain ⟨⟨a, g, hl, h⟩⟩ := h
  exact ⟨⟨a, g, hl, h.push hP hO hBC hC⟩⟩
theorem Src.ne {w0 w : World} {B S C : Nat} {A : Option Addr} {n c lo : Nat} {v : Value} {xs : List Int} (h : Src w0 B S A n c lo w) (hO : Ow w C v xs) : ∀ b, v.ownBlock = some b → some S ≠ some b := by
  obtain ⟨⟨a, g, hl, h⟩⟩ := h
  exact h.ne hO
/-- The draws so far. -/
structure OrdD (w0 : World) (B S : Nat) (A : Option Addr) (n c lo : Nat) (w : World) (most : Int) (vv : Value) (os : List Int) (sz : Int) (wr : World) : Prop where
  own : Ow wr w.heap.size vv os
  src : Src w0 B S A n c lo wr
  keep : w.grownBy wr (some S)
  rng : ∀ x ∈ os, 2 ≤ x ∧ x ≤ 12
  prod : prodL os = sz
theorem prodL_one (os : List Int) (x : Int) : prodL (os ++ [x]) = prodL os * x := prodL_snoc os x
def OrdP (most : Int) (os : List Int) : Prop := (∀ x ∈ os, 2 ≤ x ∧ x ≤ 12) ∧ os.length ≤ 3 ∧ 1 ≤ prodL os ∧ (prodL os = 1 ∨ prodL os ≤ most) ∧ (2 ≤ most → os ≠ [])

set_option maxRecDepth 100000 in
set_option maxHeartbeats 4000000 in
theorem orders2_any (w0 w : World) (B S : Nat) (A : Option Addr) (n c lo : Nat) (bs : List Int) (hb : SlB w0 B A n c bs) (hn : n ≤ 1048576) (hs : Src w0 B S A n c lo w) (hBw : B ≤ w.heap.size) (most : Int) (hm0 : 0 ≤ most) (hm : most ≤ 1000) :
    Calls Try.prog 49 #[.pointer (some ⟨S, 0, none⟩), .int .i64 most] w (DrO w0 B S A n c lo w (OrdP most)) := by
  go_enter Try.func49, Try.ntmps49
  have hE : Ow (w.alloc (.cells #[] 2)) w.heap.size (.slice (some ⟨w.heap.size, 0, none⟩) 0 0) [] := Ow.made' (xs := []) w #[] w.heap.size 0 rfl rfl (Nat.le_refl _) rfl (by unfold maxLen; omega)
  have hs0 := hs.alloc (.cells #[] 2)
  go_wp2_with fail
  refine (l01Next_any w0 _ B S A n c lo bs hb hn hs0 3 ⟨by omega, by omega⟩).mono ?_
  rintro e w1 ⟨x, rfl, ⟨x0, x1, -⟩, hs1, hg1⟩
  have x1 := x1 (by omega)
  have hE1 := hE.far hg1 (hs0.ne hE)
  obtain ⟨K, hK⟩ : ∃ K : Nat, 1 + x = K := ⟨(1 + x).toNat, by omega⟩
  have hK1 : 1 ≤ K := by omega
  have hK3 : K ≤ 3 := by omega
  have v1 : IntKind.i64.wrap (1 + x) = K := by rw [wr64 _ ⟨by omega, by omega⟩]; exact hK
  clear hK
  go_wp2_with fail
  clear v1
  have hk0 := (World.grownBy_alloc w (.cells #[] 2) (some S)).trans hg1
  go_loopw [7, 5, 6] (fun k v s wr => ∃ (k' : Nat) (vv : Value) (os : List Int) (sz : Int), k' ≤ K ∧ k = .int .i64 k' ∧ vv = v ∧ s = .int .i64 sz ∧ os.length + k' ≤ K ∧ 1 ≤ sz ∧ (sz = 1 ∨ sz ≤ most) ∧ (2 ≤ most → k' < K → os ≠ []) ∧ OrdD w0 B S A n c lo w most vv os sz wr) (fun k _ _ _ => (intOf k).toNat)
  case atStart => exact ⟨K, _, [], 1, by omega, rfl, rfl, rfl, by simp, by omega, .inl rfl, fun _ h => absurd h (by omega), ⟨hE1, hs1, hk0, by simp, rfl⟩⟩
  case round =>
    clear hE hE1 hs0 hs1 hg1 hk0
    obtain ⟨k, vv, os, sz, hk, rfl, rfl, rfl, hlen, hs1, hsm, hne, hD⟩ := hrel
    by_cases hlt : 0 < k
    · go_wp2_with fail
      refine (l01Pick_any w0 _ B S A n c lo bs hb hn (hD.src.alloc _) wr.heap.size 2 4 [2, 3, 5, 9] (Blk.new _ _ _) (by have := hD.src.lt; omega) rfl (by omega) (by omega)).mono ?_
      rintro e w3 ⟨y, rfl, hy, hs3, hg3⟩
      have hy2 : 2 ≤ y ∧ y ≤ 9 := pick_mem hy (by decide)
      clear hy
      obtain ⟨Ao, co, rfl⟩ := hD.own.val
      go_wp2_with fail
      refine (l01Next_any w0 _ B S A n c lo bs hb hn hs3 y ⟨by omega, by omega⟩).mono ?_
      rintro e w4 ⟨z, rfl, ⟨z0, z1, -⟩, hs4, hg4⟩
      have z1 := z1 (by omega)
      have hg34 := ((World.grownBy_alloc wr (.cells #[.int .i64 2, .int .i64 3, .int .i64 5, .int .i64 9] 2) (some S)).trans hg3).trans hg4
      replace hD : OrdD w0 B S A n c lo w most (.slice Ao os.length co) os sz w4 := ⟨hD.own.far hg34 (hD.src.ne hD.own), hs4, hD.keep.trans hg34, hD.rng, hD.prod⟩
      clear hs3 hg3 hs4 hg4 hg34
      obtain ⟨o, ho⟩ : ∃ o, 2 + z = o := ⟨_, rfl⟩
      have o2 : 2 ≤ o ∧ o ≤ 10 := by omega
      have v1 : IntKind.i64.wrap (2 + z) = o := by rw [ho]; exact wr64 _ ⟨by omega, by omega⟩
      clear ho
      have hszm : sz ≤ 1000 := by omega
      have p1 : 0 ≤ sz * o := Int.mul_nonneg (by omega) (by omega)
      have p2 : sz * o ≤ 1000 * 10 := Int.mul_le_mul hszm o2.2 (by omega) (by omega)
      have v2 : IntKind.i64.wrap ((k : Int) - 1) = ((k - 1 : Nat) : Int) := by rw [wr64 _ ⟨by omega, by omega⟩]; omega
      have p3 : sz * 1 ≤ sz * o := Int.mul_le_mul (Int.le_refl _) (by omega) (by omega) (by omega)
      obtain ⟨P, hP⟩ : ∃ P, sz * o = P := ⟨_, rfl⟩
      have hPe := hide hP
      rw [hP] at p1 p2 p3
      have v3 : IntKind.i64.wrap (sz * o) = P := by rw [hP]; exact wr64 _ ⟨by omega, by omega⟩
      have q1 : o ≤ 12 := by omega
      by_cases hle : P ≤ most
      · clear hP
        have hlen4 : (os.length : Int) < 4 := by omega
        have hJ := hD.own.alloc (.cells #[.int .i64 (o)] 2)
        have hsrc := hD.src.alloc (.cells #[.int .i64 (o)] 2)
        have hkz := hD.keep.size
        go_wp2_with (at_builtin; refine list_push _ rfl _ _ rfl w.heap.size _ os rfl hJ (o) _ _ rfl (Blk.new _ _ _) (by omega) (by simp; omega) (by simp) ?_; intro g2 cap w6 hP)
        go_roundw
        case rel => exact ⟨k - 1, _, os ++ [o], P, by omega, by go_num, rfl, rfl, by simp; omega, by omega, .inr (by omega), fun _ _ => by simp, ⟨hP.own, hsrc.push hP hJ hBw (by simp; omega), grown_below (hD.keep.trans (World.grownBy_alloc _ _ _)) (hP.below hJ (by simp; omega)), fun x hx => by rcases List.mem_append.1 hx with h | h; exact hD.rng x h; simp at h; omega, ((prodL_one os (o)).trans (congrArg (· * (o)) hD.prod)).trans hPe.out⟩⟩
        case measure => simp [intOf] <;> omega
      · clear hPe hP
        by_cases hle2 : sz * 2 ≤ most
        · skip
          have hlen4 : (os.length : Int) < 4 := by omega
          have hJ := hD.own.alloc (.cells #[.int .i64 (2)] 2)
          have hsrc := hD.src.alloc (.cells #[.int .i64 (2)] 2)
          have hkz := hD.keep.size
          go_wp2_with (at_builtin; refine list_push _ rfl _ _ rfl w.heap.size _ os rfl hJ (2) _ _ rfl (Blk.new _ _ _) (by omega) (by simp; omega) (by simp) ?_; intro g2 cap w6 hP)
          go_roundw
          case rel => exact ⟨k - 1, _, os ++ [2], sz * 2, by omega, by go_num, rfl, rfl, by simp; omega, by omega, .inr (by omega), fun _ _ => by simp, ⟨hP.own, hsrc.push hP hJ hBw (by simp; omega), grown_below (hD.keep.trans (World.grownBy_alloc _ _ _)) (hP.below hJ (by simp; omega)), fun x hx => by rcases List.mem_append.1 hx with h | h; exact hD.rng x h; simp at h; omega, ((prodL_one os (2)).trans (congrArg (· * (2)) hD.prod)).trans rfl⟩⟩
          case measure => simp [intOf] <;> omega
        · have hne' : 2 ≤ most → os ≠ [] := fun h e => by
            have := hD.prod
            rw [e] at this
            simp only [prodL] at this
            omega
          go_wp2_with fail
          go_roundw
          case rel => exact ⟨k - 1, _, os, sz, by omega, by go_num, rfl, rfl, by omega, hs1, hsm, fun h _ => hne' h, hD⟩
          case measure => simp [intOf] <;> omega
    · obtain rfl : k = 0 := by omega
      go_wp2_with fail
      go_ret
      refine ⟨vv, os, rfl, hD.own, ⟨hD.rng, by omega, by rw [hD.prod]; omega, by rw [hD.prod]; exact hsm, fun h => hne h (by omega)⟩, hD.src, hD.keep⟩
/-- So many draws on, the code used up. -/
def ticks (h : Int) : Nat → Int
  | 0 => h
  | k + 1 => tick (ticks h k)
set_option maxRecDepth 100000 in
set_option maxHeartbeats 4000000 in
/-- With most below 2 no order is drawn; all draws are told. -/
theorem orders2_x (w0 w : World) (B S : Nat) (A : Option Addr) (n c : Nat) (h : Int) (bs : List Int) (hb : SlB w0 B A n c bs) (hn : n ≤ 1048576) (hs : SrcX w0 B S A n c n h w) (hBw : B ≤ w.heap.size) (most : Int) (hm0 : 0 ≤ most) (hm : most ≤ 1) :
    Calls Try.prog 49 #[.pointer (some ⟨S, 0, none⟩), .int .i64 most] w (fun e w' => ∃ v, e = .returned v ∧ Ow w' w.heap.size v [] ∧ SrcX w0 B S A n c n (ticks h (3 + 2 * (tick h / 8589934592 % 16777216 % 3).toNat)) w' ∧ w.grownBy w' (some S)) := by
  go_enter Try.func49, Try.ntmps49
  have hE : Ow (w.alloc (.cells #[] 2)) w.heap.size (.slice (some ⟨w.heap.size, 0, none⟩) 0 0) [] := Ow.made' (xs := []) w #[] w.heap.size 0 rfl rfl (Nat.le_refl _) rfl (by unfold maxLen; omega)
  have hs0 := hs.alloc (.cells #[] 2)
  go_wp2_with fail
  refine (l01Next_x w0 _ B S A n c n h bs hb hn hs0 3 ⟨by omega, by omega⟩ (by omega)).mono ?_
  rintro e w1 ⟨x, rfl, ⟨⟨x0, x1, -⟩, hx⟩, hs1, hg1⟩
  replace hx := hx rfl
  rw [if_neg (Nat.lt_irrefl n)] at hs1
  have hE1 := hE.far hg1 (hs0.ne hE)
  obtain ⟨K, hK⟩ : ∃ K : Nat, 1 + x = K := ⟨(1 + x).toNat, by omega⟩
  have hK1 : 1 ≤ K := by omega
  have hK3 : K ≤ 3 := by omega
  have HX := hide (show 3 + 2 * (tick h / 8589934592 % 16777216 % 3).toNat = 1 + 2 * K by rw [← hx]; omega)
  have v1 : IntKind.i64.wrap (1 + x) = K := by rw [wr64 _ ⟨by omega, by omega⟩]; exact hK
  clear hK hx
  go_wp2_with fail
  clear v1
  have hk0 := (World.grownBy_alloc w (.cells #[] 2) (some S)).trans hg1
  go_loopw [7, 5, 6] (fun k v s wr => ∃ (k' : Nat) (vv : Value), k' ≤ K ∧ k = .int .i64 k' ∧ vv = v ∧ s = .int .i64 1 ∧ Ow wr w.heap.size vv [] ∧ SrcX w0 B S A n c n (ticks h (1 + 2 * (K - k'))) wr ∧ w.grownBy wr (some S)) (fun k _ _ _ => (intOf k).toNat)
  case atStart => exact ⟨K, _, by omega, rfl, rfl, rfl, hE1, by rw [show 1 + 2 * (K - K) = 1 by omega]; exact hs1, hk0⟩
  case round =>
    clear hE hE1 hs0 hs1 hg1 hk0
    obtain ⟨k, vv, hk, rfl, rfl, rfl, hO, hsr, hkp⟩ := hrel
    by_cases hlt : 0 < k
    · go_wp2_with fail
      refine (l01Pick_x w0 _ B S A n c n _ bs hb hn (hsr.alloc _) wr.heap.size 2 4 [2, 3, 5, 9] (Blk.new _ _ _) (by have := hsr.lt; omega) rfl (by omega) (by omega)).mono ?_
      rintro e w3 ⟨y, rfl, hy, hs3, hg3⟩
      rw [if_neg (Nat.lt_irrefl n)] at hs3
      have hy2 : 2 ≤ y ∧ y ≤ 9 := pick_mem hy (by decide)
      clear hy
      obtain ⟨Ao, co, rfl⟩ := hO.val
      go_wp2_with fail
      refine (l01Next_x w0 _ B S A n c n _ bs hb hn hs3 y ⟨by omega, by omega⟩ (by omega)).mono ?_
      rintro e w4 ⟨z, rfl, ⟨⟨z0, z1, -⟩, -⟩, hs4, hg4⟩
      rw [if_neg (Nat.lt_irrefl n)] at hs4
      have hg34 := ((World.grownBy_alloc wr (.cells #[.int .i64 2, .int .i64 3, .int .i64 5, .int .i64 9] 2) (some S)).trans hg3).trans hg4
      have hO4 : Ow w4 w.heap.size (.slice Ao [].length co) [] := hO.far hg34 (hsr.ne hO)
      have hs5 : SrcX w0 B S A n c n (ticks h (1 + 2 * (K - (k - 1)))) w4 := by
        rw [show 1 + 2 * (K - (k - 1)) = 1 + 2 * (K - k) + 1 + 1 by omega]; exact hs4
      have hkp5 := hkp.trans hg34
      clear hs3 hg3 hs4 hg4 hg34 hO hsr hkp
      obtain ⟨o, ho⟩ : ∃ o, 2 + z = o := ⟨_, rfl⟩
      have o2 : 2 ≤ o ∧ o ≤ 10 := by omega
      have v1 : IntKind.i64.wrap (2 + z) = o := by rw [ho]; exact wr64 _ ⟨by omega, by omega⟩
      clear ho
      have v2 : IntKind.i64.wrap ((k : Int) - 1) = ((k - 1 : Nat) : Int) := by rw [wr64 _ ⟨by omega, by omega⟩]; omega
      have q1 : o ≤ 12 := by omega
      go_wp2_with fail
      go_roundw
      case rel => exact ⟨k - 1, _, by omega, by go_num, rfl, rfl, hO4, hs5, hkp5⟩
      case measure => simp [intOf] <;> omega
    · obtain rfl : k = 0 := by omega
      go_wp2_with fail
      go_ret
      exact ⟨_, rfl, hO, by rw [HX.out, show 1 + 2 * K = 1 + 2 * (K - 0) by omega]; exact hsr, hkp⟩
end Go.Proofs.Ytnoemhmmaicakaa
