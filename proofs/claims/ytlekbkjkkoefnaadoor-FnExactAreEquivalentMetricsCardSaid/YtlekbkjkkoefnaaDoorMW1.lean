
/- Masks walked: maskOf, labelsIn, elementsOf of the program; l11Members of the reference. -/
import Derived.Test.YtlekbkjkkoefnaaDoorMP
import Derived.Test.YtlekbkjkkoefnaaDoorSG1
import Derived.Test.YtlekbkjkkoefnaaDoorNa
import Derived.WalkLawsBesides
import Derived.Shelf.Spec.TrailingZeros
import Derived.Ground.Names7Prog
namespace Go.Proofs.YtlekbkjkkoefnaaDoor
open Go Go.RowKit Go.Shelf Grp
set_option linter.unusedSimpArgs false
set_option linter.unusedVariables false
def tzLay_ren : Go.Shelf.Ren := ⟨fun | 29 => 115 | n => n, fun | 22 => 71 | 3 => 3 | 4 => 4 | 25 => 95 | 54 => 121 | 0 => 0 | 5 => 5 | n => n, fun | 1 => 0 | n => n⟩
theorem tzLay : Go.Proofs.Lays7.n29 Tryd.prog tzLay_ren := {
  mixed := by kernel_rfl
  f29 := Tryd.func115.trans (congrArg some (by kernel_rfl))
  t0 := Tryd.underlying0
  a0 := Tryd.isAgg0
  z0 := Tryd.sizeOf0
  v0 := Tryd.zeroValue0
  i0 := by kernel_rfl
  t3 := Tryd.underlying3
  a3 := Tryd.isAgg3
  z3 := Tryd.sizeOf3
  v3 := Tryd.zeroValue3
  i3 := by kernel_rfl
  t4 := Tryd.underlying4
  a4 := Tryd.isAgg4
  z4 := Tryd.sizeOf4
  v4 := Tryd.zeroValue4
  i4 := by kernel_rfl
  t5 := Tryd.underlying5
  a5 := Tryd.isAgg5
  z5 := Tryd.sizeOf5
  v5 := Tryd.zeroValue5
  i5 := by kernel_rfl
  t22 := Tryd.underlying71
  a22 := Tryd.isAgg71
  z22 := Tryd.sizeOf71
  v22 := Tryd.zeroValue71
  i22 := by kernel_rfl
  t25 := Tryd.underlying95
  a25 := Tryd.isAgg95
  z25 := Tryd.sizeOf95
  v25 := Tryd.zeroValue95
  i25 := by kernel_rfl
  t54 := Tryd.underlying121
  a54 := Tryd.isAgg121
  z54 := Tryd.sizeOf121
  g1 := by kernel_rfl }
/-- The table of math/bits lies in its variable. -/
structure Tb (w : World) : Prop where
  lt : 0 < w.heap.size
  at_ : TabAt 0 Lib.deBruijn64tab w
theorem Tb.bel {w w' : World} (h : Tb w) (hb : Below w.heap.size w w') : Tb w' :=
  ⟨Nat.lt_of_lt_of_le h.lt hb.size, fun j hj => (hb.cell (p := ⟨0, j, none⟩) h.lt).trans (h.at_ j hj)⟩
theorem Tb.more {w w' : World} {B : Nat} (h : Tb w) (hb : Below B w w') (hB : w.heap.size ≤ B) : Tb w' := h.bel (hb.mono hB)
theorem tz_any (w : World) (r : Nat) (hr : r < 18446744073709551616) (hT : Tb w) : Calls Tryd.prog 115 #[.int .u64 r] w (Qt w (.int .i64 (Lib.ctz 64 r : Nat))) :=
  (Any7.bits_TrailingZeros64 tzLay r hr w (fun _ => hT.at_)).mono fun e w' h => ⟨h.1, 0, h.2⟩
/-- It returned a slice of labels of its own. -/
def MkI (w : World) (xs : List Int) (e : Ending) (w' : World) : Prop := ∃ v, e = .returned v ∧ OwV w' w.heap.size 3 v (xs.map (Value.int .i64)) ∧ Below w.heap.size w w'
theorem intI_info : (Tryd.prog.info? 3).map (fun i => (i.zero, i.size, i.bytes)) = some (some (.int .i64 0), 1, 8) := by kernel_rfl
section
variable {t : TypeId} {w w' : World} {B B' : Nat} {v : Value} {us : List Value}
theorem OwV.val' (h : OwV w B t v us) : ∃ A c, v = .slice A us.length c := by
  rcases h.form with ⟨rfl, rfl⟩ | ⟨g, cap, rfl, _⟩
  · exact ⟨none, 0, rfl⟩
  · exact ⟨_, cap, rfl⟩
theorem OwV.less' (h : OwV w B t v us) (hB : B' ≤ B) : OwV w B' t v us := by
  obtain ⟨h1, h2⟩ := h
  refine ⟨h1, ?_⟩
  rcases h2 with h2 | ⟨g, cap, cur, hv, hg, h3⟩
  · exact .inl h2
  · exact .inr ⟨g, cap, cur, hv, by omega, h3⟩
theorem OwV.at' {A : Option Addr} {n c k : Nat} {u : Value} (h : OwV w B t (.slice A n c) us) (hu : us[k]? = some u) : ∃ g, A = some ⟨g, 0, none⟩ ∧ g < w.heap.size ∧ w.cell? ⟨g, k, none⟩ = some u := by
  rcases h.form with ⟨_, rfl⟩ | ⟨g, cap, e1, _, e3, _, e5⟩
  · simp at hu
  · injection e1 with e1
    exact ⟨g, e1, e3, e5 k u hu⟩
theorem OwV.far' (h : OwV w B t v us) {row : Option Nat} (hg : w.grownBy w' row) (hne : v.ownBlock = none ∨ v.ownBlock ≠ row) : OwV w' B t v us := World.ownsRow.kept h hg hne
theorem OwV.apart' (h : OwV w B t v us) {v' : Value} {xs : List Int} (k : Ow w B' v' xs) (ht : t ≠ 2) : v.ownBlock = none ∨ v.ownBlock ≠ v'.ownBlock := by
  obtain ⟨h1, h2⟩ := h
  rcases h2 with ⟨rfl, _⟩ | ⟨g, cap, cur, rfl, hg, hh, _⟩
  · exact .inl rfl
  · refine .inr fun e => k.blk_ne (g := g) (t := t) (cs := cur) hh ht ?_
    rw [← e]; rfl
end
set_option maxHeartbeats 1000000 in
theorem labelsIn_any (w : World) (N m : Nat) (hN : N ≤ 16) (hm : m < 2 ^ N) (hT : Tb w) : Calls Tryd.prog 81 #[.int .i64 m] w (MkI w (mems N m)) := by
  have h16 : ∀ r, r < 2 ^ N → r < 65536 := fun r hr => Nat.lt_of_lt_of_le hr (Nat.le_trans (Nat.pow_le_pow_right (by omega) hN) (by decide))
  have H16 := hide h16
  have HLo := hide (fun r (h0 : r ≠ 0) (hr : r < 2 ^ N) => mems_low h0 hr (show N ≤ 64 by omega))
  have HLe := hide (mems_len N)
  have HM := hide hm
  clear h16 hm
  go_enter Tryd.func81, Tryd.ntmps81
  go_wp2_with fail
  have hO2 : OwV (w.alloc (.cells #[] 3)) w.heap.size 3 (.slice (some ⟨w.heap.size, 0, none⟩) 0 0) [] := OwV.made w _ _ rfl (Nat.le_refl _)
  have hB2 : Below w.heap.size w (w.alloc (.cells #[] 3)) := (Below.refl _ _).alloc (Nat.le_refl _) _
  go_loopw [0, 3] (fun s o wr => ∃ (r : Nat) (vv : Value) (ds : List Int), s = .int .i64 r ∧ vv = o ∧ Hid (r < 2 ^ N ∧ mems N m = ds ++ mems N r) ∧ ds.length ≤ 16 ∧ OwV wr w.heap.size 3 vv (ds.map (Value.int .i64)) ∧ Below w.heap.size w wr) (fun s _ _ => (intOf s).toNat)
  case atStart => exact ⟨m, _, [], rfl, rfl, hide ⟨HM.out, rfl⟩, by simp, hO2, hB2⟩
  case round =>
    clear hO2 hB2
    obtain ⟨r, vv, ds, rfl, rfl, hR, hds, hO, hBe⟩ := hrel
    by_cases h0 : r = 0
    · subst h0
      have hE := hide (show mems N m = ds by rw [hR.out.2, mems_zero, List.append_nil])
      go_wp2_with fail
      go_ret
      exact ⟨_, rfl, by rw [hE.out]; exact hO, hBe⟩
    · obtain ⟨k1, k2, k3⟩ := HLo.out r h0 hR.out.1
      have r16 := H16.out r hR.out.1
      have hv1 : IntKind.u64.wrap (r : Int) = (r : Int) := by rw [IntKind.wrap_u64]; omega
      have hv2 : IntKind.i64.wrap ((r : Int) - 1) = ((r - 1 : Nat) : Int) := by rw [wr64 _ ⟨by omega, by omega⟩]; omega
      have ha : bits .and .i64 (r : Int) ((r - 1 : Nat) : Int) = ((r &&& (r - 1) : Nat) : Int) := and64 (by omega) (by omega)
      have hle : r &&& (r - 1) ≤ r - 1 := Nat.and_le_right
      have hT2 := hT.bel hBe
      have hlen := HLe.out m
      obtain ⟨q, hq⟩ : ∃ q, r &&& (r - 1) = q := ⟨_, rfl⟩
      obtain ⟨x, hx⟩ : ∃ x, Lib.ctz 64 r = x := ⟨_, rfl⟩
      rw [hq] at k2 k3 ha hle
      rw [hx] at k1 k3
      have hd1 : (ds ++ [(x : Int)]).length ≤ 16 := by
        rw [hR.out.2, k3] at hlen
        simp at hlen ⊢
        omega
      have hR' := hide (show q < 2 ^ N ∧ mems N m = (ds ++ [(x : Int)]) ++ mems N q from ⟨k2, by rw [hR.out.2, k3]; simp⟩)
      have hdm : ds.map (Value.int .i64) ++ [.int .i64 (x : Int)] = (ds ++ [(x : Int)]).map (Value.int .i64) := by simp
      have HD := hide hdm
      have tz := tz_any wr r (by omega) hT2
      rw [hx] at tz
      have hri : ¬ (r : Int) = 0 := by omega
      clear k2 k3 hq hx hlen hdm hR
      go_wp2_with fail
      refine tz.mono ?_
      rintro e w3 ⟨rfl, m3, rfl⟩
      go_wp2_with (at_builtin; refine list_pushV 78 3 _ 8 Tryd.underlying78 intI_info (by omega) rfl _ rfl _ _ rfl w.heap.size _ _ rfl ((hO.drewN m3).alloc _) _ rfl _ _ rfl (Blk.new _ _ _) (by simp; omega) (by have := hBe.size; simp; omega) (by simp) ?_; intro g' cap' w4 hP4)
      go_roundw
      case rel => exact ⟨q, _, ds ++ [(x : Int)], by go_num, rfl, hR', hd1, by have h9 := hP4.own; rw [List.length_map, HD.out] at h9; exact h9, ((below_drewN hBe m3).alloc hBe.size _).trans (hP4.below ((hO.drewN m3).alloc _) (by have := hBe.size; simp; omega))⟩
      case measure => simp [intOf] <;> omega
set_option maxHeartbeats 1000000 in
theorem elementsOf_any (w : World) (N m : Nat) (hN : N ≤ 16) (hm : m < 2 ^ N) (hT : Tb w) : Calls Tryd.prog 44 #[.int .i64 m] w (Mk w (mems N m)) := by
  have HLe := mems_len N m
  obtain ⟨xs, hxs⟩ : ∃ xs, mems N m = xs := ⟨_, rfl⟩
  have hL := labelsIn_any (w.alloc (.cells #[] 2)) N m hN hm (hT.bel ((Below.refl _ _).alloc (Nat.le_refl _) _))
  rw [hxs] at HLe hL ⊢
  clear hxs
  go_enter Tryd.func44, Tryd.ntmps44
  have hO2 : Ow (w.alloc (.cells #[] 2)) w.heap.size (.slice (some ⟨w.heap.size, 0, none⟩) 0 0) [] := Ow.made' (xs := []) w #[] w.heap.size 0 rfl rfl (Nat.le_refl _) rfl (by unfold maxLen; omega)
  have hB2 : Below w.heap.size w (w.alloc (.cells #[] 2)) := (Below.refl _ _).alloc (Nat.le_refl _) _
  go_wp2_with fail
  refine hL.mono ?_
  rintro e w3 ⟨v, rfl, hV, hb3⟩
  clear hL
  replace hO2 := hO2.below hb3
  replace hB2 := hB2.trans (hb3.mono hB2.size)
  clear hb3
  obtain ⟨vA, vc, hv⟩ := hV.val'
  rw [List.length_map] at hv
  subst hv
  go_wp2_with fail
  go_loopw [3, 10] (fun o i wr => ∃ (k : Nat) (vv : Value), k ≤ xs.length ∧ i = .int .i64 k ∧ vv = o ∧ Ow wr w.heap.size vv (xs.take k) ∧ OwV wr (w.heap.size + 1) 3 (.slice vA xs.length vc) (xs.map (Value.int .i64)) ∧ Below w.heap.size w wr) (fun _ i _ => xs.length - (intOf i).toNat)
  case atStart => exact ⟨0, _, by omega, rfl, rfl, by simpa using hO2, hV.less' (by simp), hB2⟩
  case round =>
    clear hO2 hB2 hV
    obtain ⟨k, vv, hk, rfl, rfl, hO, hV, hBe⟩ := hrel
    by_cases hlt : k < xs.length
    · obtain ⟨g, rfl, hg, c1⟩ := hV.at' (k := k) (u := .int .i64 (gi xs k)) (by rw [List.getElem?_map, gi_get hlt]; rfl)
      have HS := hide (take_gi hlt)
      obtain ⟨x, ex⟩ : ∃ x, gi xs k = x := ⟨_, rfl⟩
      rw [ex] at c1 HS
      clear ex
      have hlk : (xs.take k).length = k := by simp; omega
      have hJ := hO.alloc (.cells #[.int .i64 x] 2)
      go_wp2_with (at_builtin; refine list_push _ rfl _ _ rfl w.heap.size _ _ rfl hJ x _ _ rfl (Blk.new _ _ _) (by omega) (by have := hBe.size; simp; omega) (by simp) ?_; intro g' cap' w4 hP4)
      go_roundw
      case rel => exact ⟨k + 1, _, by omega, by go_num, rfl, by have h9 := hP4.own; rw [hlk] at h9; rw [HS.out]; exact h9, (hV.alloc _).far' hP4.2.1 ((hV.alloc _).apart' hJ (by decide)), (hBe.alloc hBe.size _).trans (hP4.below hJ (by have := hBe.size; simp; omega))⟩
      case measure => simp [intOf] <;> omega
    · obtain rfl : k = xs.length := by omega
      rw [List.take_length] at hO
      go_wp2_with fail
      go_ret
      exact ⟨_, rfl, hO, hBe⟩
set_option maxHeartbeats 1000000 in
theorem maskOf_any (w : World) (B : Nat) (A : Option Addr) (n c : Nat) (xs : List Int) (h : Sl w B A n c xs) (hx : ∀ x ∈ xs, 0 ≤ x ∧ x < (16 : Nat)) (hn : n ≤ 1048576) :
    Calls Tryd.prog 72 #[.slice A n c] w (Qt w (.int .i64 (msk xs : Nat))) := by
  obtain rfl := h.len
  have HX := hide hx
  have HK := hide (fun k => msk_lt (n := 16) (xs := xs.take k) fun x hm => hx x (List.mem_of_mem_take hm))
  clear hx
  go_enter Tryd.func72, Tryd.ntmps72
  go_wp2_with fail
  go_loop [3, 8] (fun s i => ∃ k : Nat, k ≤ xs.length ∧ i = .int .i64 k ∧ s = .int .i64 (msk (xs.take k) : Nat)) (fun _ i => xs.length - (intOf i).toNat)
  case atStart => exact ⟨0, by omega, rfl, rfl⟩
  case round =>
    obtain ⟨k, hk, rfl, rfl⟩ := hrel
    by_cases hlt : k < xs.length
    · obtain ⟨b, off, rfl, hb, hc⟩ := h.at_ (by omega)
      have c1 := hc k hlt
      clear hc
      obtain ⟨r0, r1⟩ := HX.out _ (gi_mem hlt)
      have hm := HK.out k
      have hS := msk_snoc hlt
      obtain ⟨x, hxe⟩ := Int.eq_ofNat_of_zero_le r0
      rw [hxe] at c1 r0 r1 hS
      clear hxe
      obtain ⟨M, hM⟩ : ∃ M, msk (xs.take k) = M := ⟨_, rfl⟩
      rw [hM] at hm hS
      rw [Int.toNat_natCast] at hS
      have p1 := pow16k (x := x) (by omega)
      obtain ⟨P, hP⟩ : ∃ P : Nat, 2 ^ x = P := ⟨_, rfl⟩
      rw [hP] at p1 hS
      have e2 : ((2 : Int) ^ x) = (P : Int) := by rw [← hP]; exact (Int.natCast_pow 2 x).symm
      have hs : wrap64 ((2 : Int) ^ x) = (P : Int) := by rw [e2]; exact wrap64_ok _ ⟨by omega, by omega⟩
      have ho : bits .or .i64 (M : Int) (P : Int) = ((M ||| P : Nat) : Int) := or64 (Nat.lt_of_lt_of_le hm (by decide)) (Nat.lt_of_lt_of_le p1 (by decide))
      have HS := hide hS
      clear e2 hP hS
      rw [hM]
      clear hM
      go_wp2_with fail
      go_round
      case rel => exact ⟨k + 1, by omega, by go_num, by rw [HS.out]⟩
      case measure => simp [intOf] <;> omega
    · obtain rfl : k = xs.length := by omega
      rw [List.take_length]
      go_wp2
      go_ret
      exact Qt.mk' 0 rfl rfl
set_option maxHeartbeats 1000000 in
theorem l11Members_any (w : World) (N m : Nat) (hN : N ≤ 16) (hm : m < 65536) :
    Calls Tryd.prog 42 #[.int .i64 N, .int .i64 m] w (Mk w (mems N m)) := by
  go_enter Tryd.func42, Tryd.ntmps42
  go_wp2_with fail
  have hO2 : Ow (w.alloc (.cells #[] 2)) w.heap.size (.slice (some ⟨w.heap.size, 0, none⟩) 0 0) [] := Ow.made' (xs := []) w #[] w.heap.size 0 rfl rfl (Nat.le_refl _) rfl (by unfold maxLen; omega)
  have hB2 : Below w.heap.size w (w.alloc (.cells #[] 2)) := (Below.refl _ _).alloc (Nat.le_refl _) _
  go_loopw [5, 6] (fun o i wr => ∃ (k : Nat) (vv : Value), k ≤ N ∧ i = .int .i64 k ∧ vv = o ∧ Ow wr w.heap.size vv (mems k m) ∧ Below w.heap.size w wr) (fun _ i _ => N - (intOf i).toNat)
  case atStart => exact ⟨0, _, by omega, rfl, rfl, hO2, hB2⟩
  case round =>
    clear hO2 hB2
    obtain ⟨k, vv, hk, rfl, rfl, hO, hBe⟩ := hrel
    by_cases hlt : k < N
    · have HS := hide (mems_snoc k m)
      have hl := mems_len k m
      obtain ⟨q, hq⟩ : ∃ q, mems k m = q := ⟨_, rfl⟩
      rw [hq] at hO HS hl
      clear hq
      have hc1 : IntKind.u64.wrap (k : Int) = (k : Int) := by rw [IntKind.wrap_u64]; omega
      obtain ⟨V, hV⟩ : ∃ V : Nat, m / 2 ^ k = V := ⟨_, rfl⟩
      have hV2 : V ≤ m := by rw [← hV]; exact Nat.div_le_self _ _
      have hs : (m : Int) / (2 : Int) ^ k = (V : Int) := by
        rw [← hV, show (2 : Int) ^ k = ((2 ^ k : Nat) : Int) from (Int.natCast_pow 2 k).symm]; rfl
      have hb := shr_bit m k
      rw [hV] at hb
      have ha : bits .and .i64 (V : Int) 1 = ((V &&& 1 : Nat) : Int) := and64 (a := V) (b := 1) (by omega) (by omega)
      rw [hb] at ha
      clear hb hV
      cases ht : m.testBit k with
      | true =>
        rw [ht] at ha HS
        simp only [if_true] at ha HS
        go_wp2_with (at_builtin; refine list_push _ rfl _ _ rfl w.heap.size _ _ rfl (hO.alloc _) k _ _ rfl (Blk.new _ _ _) (by omega) (by have := hBe.size; simp at this ⊢; omega) (by simp) ?_; intro g' cap' w4 hP4)
        go_roundw
        case rel => exact ⟨k + 1, _, by omega, by go_num, rfl, by rw [HS.out]; exact hP4.own, (hBe.alloc hBe.size _).trans (hP4.below (hO.alloc _) (by have := hBe.size; simp at this ⊢; omega))⟩
        case measure => simp [intOf] <;> omega
      | false =>
        rw [ht] at ha HS
        simp only [if_false, Bool.false_eq_true, List.append_nil] at ha HS
        go_wp2_with fail
        go_roundw
        case rel => exact ⟨k + 1, _, by omega, by go_num, rfl, by rw [HS.out]; exact hO, hBe⟩
        case measure => simp [intOf] <;> omega
    · obtain rfl : k = N := by omega
      go_wp2_with fail
      go_ret
      exact ⟨_, rfl, hO, hBe⟩
end Go.Proofs.YtlekbkjkkoefnaaDoor
