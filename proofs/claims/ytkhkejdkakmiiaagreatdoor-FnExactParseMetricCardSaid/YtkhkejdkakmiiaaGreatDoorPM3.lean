
/- readIntegers. -/
import Derived.Test.YtkhkejdkakmiiaaGreatDoorPM2
namespace Go.Proofs.YtkhkejdkakmiiaaGreatDoor
open Go Go.RowKit Go.Shelf
set_option linter.unusedSimpArgs false
set_option linter.unusedVariables false
set_option maxRecDepth 100000
def sp32 : ByteArray := ⟨#[32]⟩
/-- The words of a text. -/
def wds (s : ByteArray) : List ByteArray := Lib.splitB sp32 0 (Lib.countB s sp32) s
theorem splitB_size (sep : ByteArray) : ∀ (k : Nat) (s x : ByteArray), x ∈ Lib.splitB sep 0 k s → x.size ≤ s.size := by
  intro k
  induction k with
  | zero => intro s x h; rw [Lib.splitB_zero] at h; rw [List.mem_singleton.1 h]; exact Nat.le_refl _
  | succ k ih =>
    intro s x h
    unfold Lib.splitB at h
    split at h
    · rw [List.mem_singleton.1 h]; exact Nat.le_refl _
    · rcases List.mem_cons.1 h with h | h
      · rw [h, ByteArray.size_extract]; omega
      · have := ih _ _ h
        rw [ByteArray.size_extract] at this
        omega
theorem wds_len (s : ByteArray) : (wds s).length = Lib.countB s sp32 + 1 := Lib.splitB_all sp32 (by decide) 0 _ s rfl
/-- The numbers of a text. -/
def riB (s : ByteArray) : Bool := (wds s).all rdB
def riL (s : ByteArray) : List Int := if riB s = true then (wds s).map rdV else []
theorem rdV_ok {s : ByteArray} (h : rdB s = true) : i64ok (rdV s) := by
  unfold rdB at h
  unfold rdV
  cases hp : Lib.parseIntB 64 s.data.toList with
  | ok v => exact parse_ok64 hp
  | _ => rw [hp] at h; cases h
theorem riB_no {s x : ByteArray} {k : Nat} (hk : (wds s)[k]? = some x) (h : rdB x = false) : riB s = false := by
  unfold riB
  refine Bool.eq_false_iff.2 fun ha => ?_
  have := List.all_eq_true.1 ha x (List.mem_of_getElem? hk)
  rw [h] at this; cases this
def splitLay_ren : Go.Shelf.Ren := ⟨fun | 146 => 32 | 221 => 48 | 268 => 64 | 138 => 65 | 143 => 66 | 195 => 80 | 197 => 81 | 218 => 82 | 219 => 47 | 260 => 95 | 217 => 60 | 225 => 61 | 224 => 62 | 267 => 63 | 266 => 78 | 314 => 79 | n => n, fun | 9 => 9 | 31 => 30 | 3 => 3 | 4 => 4 | 0 => 0 | 105 => 97 | 21 => 21 | 5 => 5 | 46 => 76 | 119 => 126 | 139 => 129 | 138 => 128 | 146 => 94 | 51 => 93 | n => n, fun | 1 => 0 | 3 => 4 | 4 => 5 | n => n⟩
theorem splitLay : Go.Proofs.Lays.n146 Tryz.prog splitLay_ren := {
  mixed := by kernel_rfl
  f138 := Tryz.func65.trans (congrArg some (by kernel_rfl))
  f143 := Tryz.func66.trans (congrArg some (by kernel_rfl))
  f146 := Tryz.func32.trans (congrArg some (by kernel_rfl))
  f195 := Tryz.func80.trans (congrArg some (by kernel_rfl))
  f197 := Tryz.func81.trans (congrArg some (by kernel_rfl))
  f217 := Tryz.func60.trans (congrArg some (by kernel_rfl))
  f218 := Tryz.func82.trans (congrArg some (by kernel_rfl))
  f219 := Tryz.func47.trans (congrArg some (by kernel_rfl))
  f221 := Tryz.func48.trans (congrArg some (by kernel_rfl))
  f224 := Tryz.func62.trans (congrArg some (by kernel_rfl))
  f225 := Tryz.func61.trans (congrArg some (by kernel_rfl))
  f260 := Tryz.func95.trans (congrArg some (by kernel_rfl))
  f266 := Tryz.func78.trans (congrArg some (by kernel_rfl))
  f267 := Tryz.func63.trans (congrArg some (by kernel_rfl))
  f268 := Tryz.func64.trans (congrArg some (by kernel_rfl))
  f314 := Tryz.func79.trans (congrArg some (by kernel_rfl))
  t0 := Tryz.underlying0
  a0 := Tryz.isAgg0
  z0 := Tryz.sizeOf0
  v0 := Tryz.zeroValue0
  t3 := Tryz.underlying3
  a3 := Tryz.isAgg3
  z3 := Tryz.sizeOf3
  v3 := Tryz.zeroValue3
  t4 := Tryz.underlying4
  a4 := Tryz.isAgg4
  z4 := Tryz.sizeOf4
  v4 := Tryz.zeroValue4
  t5 := Tryz.underlying5
  a5 := Tryz.isAgg5
  z5 := Tryz.sizeOf5
  v5 := Tryz.zeroValue5
  t9 := Tryz.underlying9
  a9 := Tryz.isAgg9
  z9 := Tryz.sizeOf9
  v9 := Tryz.zeroValue9
  t21 := Tryz.underlying21
  a21 := Tryz.isAgg21
  z21 := Tryz.sizeOf21
  v21 := Tryz.zeroValue21
  t31 := Tryz.underlying30
  a31 := Tryz.isAgg30
  z31 := Tryz.sizeOf30
  v31 := Tryz.zeroValue30
  t46 := Tryz.underlying76
  a46 := Tryz.isAgg76
  z46 := Tryz.sizeOf76
  v46 := Tryz.zeroValue76
  t51 := Tryz.underlying93
  a51 := Tryz.isAgg93
  z51 := Tryz.sizeOf93
  v51 := Tryz.zeroValue93
  t105 := Tryz.underlying97
  a105 := Tryz.isAgg97
  z105 := Tryz.sizeOf97
  v105 := Tryz.zeroValue97
  t119 := Tryz.underlying126
  a119 := Tryz.isAgg126
  z119 := Tryz.sizeOf126
  t138 := Tryz.underlying128
  a138 := Tryz.isAgg128
  z138 := Tryz.sizeOf128
  v138 := Tryz.zeroValue128
  t139 := Tryz.underlying129
  a139 := Tryz.isAgg129
  z139 := Tryz.sizeOf129
  v139 := Tryz.zeroValue129
  t146 := Tryz.underlying94
  a146 := Tryz.isAgg94
  z146 := Tryz.sizeOf94
  v146 := Tryz.zeroValue94
  g1 := by kernel_rfl
  g3 := by kernel_rfl
  g4 := by kernel_rfl }
theorem E1.of_ow' {w : World} {B : Nat} {v : Value} {xs : List Int} (h : Ow w B v xs) (hr : ∀ x ∈ xs, i64ok x) : E1 w v xs (fun b => B ≤ b ∧ b < w.heap.size) := ⟨h.less (Nat.zero_le _), hr, fun b hb => h.lt b hb, fun b hb => hb.2⟩
/-- What readIntegers returns. -/
def MkB1 (w : World) (xs : List Int) (b : Bool) (e : Ending) (w' : World) : Prop := ∃ v, e = .returned (.tuple #[v, .bool b]) ∧ E1 w' v xs (fun b => w.heap.size ≤ b ∧ b < w'.heap.size) ∧ Below w.heap.size w w'
set_option maxHeartbeats 4000000 in
theorem readIntegers_any (w : World) (s : ByteArray) (hs : s.size ≤ 1048576) (hT : TbZ w) : Calls Tryz.prog 15 #[.string s] w (MkB1 w (riL s) (riB s)) := by
  obtain ⟨m, hm⟩ := hT.m
  have hO0 : Ow (w.alloc (.cells #[] 2)) w.heap.size (.slice (some ⟨w.heap.size, 0, none⟩) 0 0) (((wds s).take 0).map rdV) := Ow.made' (xs := []) _ _ w.heap.size 0 rfl rfl (Nat.le_refl _) rfl (by unfold maxLen; omega)
  have hb0 : Below w.heap.size w (w.alloc (.cells #[] 2)) := (Below.refl _ _).alloc (Nat.le_refl _) _
  obtain ⟨W, hW⟩ : ∃ W, w.alloc (.cells #[] 2) = W := ⟨_, rfl⟩
  have hS := Any.strings_Split splitLay str_info s sp32 m W (by omega) (by rw [← hW]; exact (hb0.cell (World.block_lt_of_cell? _ _ hm)).trans hm) (by decide)
  have hWl := wds_len s
  have hcl : Lib.countB s sp32 ≤ s.size := Lib.countB_le sp32 (by decide) s.size s (Nat.le_refl _)
  go_enter Tryz.func15, Tryz.ntmps15
  go_wp2_with fail
  rw [hW] at hO0 hb0
  refine hS.mono ?_
  rintro e w1 ⟨rfl, hw1⟩
  have hb1 : Below W.heap.size W w1 := by rw [hw1]; exact (Below.refl _ _).alloc (Nat.le_refl _) _
  have hlt1 : W.heap.size < w1.heap.size := by rw [hw1]; simp
  have hK1 : Blk w1 W.heap.size (splitLay_ren.t 9) ((wds s).map Value.string).toArray := by rw [hw1]; exact Blk.new _ _ _
  have hO1 := hO0.below hb1
  have hB1 := hb0.trans (hb1.mono hb0.size)
  obtain ⟨G, hG⟩ : ∃ G, W.heap.size = G := ⟨_, rfl⟩
  obtain ⟨n, hn⟩ : ∃ n, Lib.countB s sp32 + 1 = n := ⟨_, rfl⟩
  rw [hn] at hWl ⊢
  rw [hG] at hlt1 hK1 ⊢
  clear hw1 hS hb1 hO0 hb0 hW hG
  go_wp2_with fail
  go_loopw [4, 13] (fun ov i wr => ∃ k : Nat, k ≤ n ∧ i = .int .i64 k ∧ Hid (∀ j x, j < k → (wds s)[j]? = some x → rdB x = true) ∧ Ow wr w.heap.size ov (((wds s).take k).map rdV) ∧ Below w.heap.size w wr ∧ Blk wr G (splitLay_ren.t 9) ((wds s).map Value.string).toArray) (fun _ i _ => n - (intOf i).toNat)
  case atStart => exact ⟨0, by omega, rfl, hide fun j x hj => absurd hj (by omega), hO1, hB1, hK1⟩
  case round =>
    clear hO1 hB1 hK1
    obtain ⟨k, hk, rfl, HP, hO, hBe, hB2⟩ := hrel
    have hsz := hBe.size
    by_cases hlk : k < n
    · obtain ⟨x, hx⟩ := get_at (xs := wds s) (k := k) (by omega)
      have c1 : wr.cell? ⟨G, k, none⟩ = some (.string x) := (hB2.cell k).trans (by simp [hx])
      have hxs : x.size ≤ 1048576 := Nat.le_trans (splitB_size sp32 _ s x (List.mem_of_getElem? hx)) hs
      have HX := hide hx
      clear hx
      have hR := readDecimal_any wr x hxs (hT.bel hBe)
      cases hr : rdB x with
      | false =>
        rw [hr] at hR
        have hF := hide (riB_no HX.out hr)
        have hL := hide (show riL s = [] by unfold riL; rw [hF.out]; rfl)
        clear hr
        go_wp2_with fail
        clear c1
        refine hR.mono ?_
        rintro e w5 ⟨rfl, hb5⟩
        go_wp2_with fail
        refine bodyPost_ret (v := .tuple #[.slice none 0 0, .bool false]) (by simp [results, Tryz.results15, go_sem]) rfl ?_
        exact ⟨_, by rw [hF.out], by rw [hL.out]; exact ⟨Ow.nil _ _, by simp, fun b hb => by simp [Value.ownBlock] at hb, fun b hb => hb.2⟩, hBe.trans (hb5.mono hsz)⟩
      | true =>
        have hv := rdV_ok hr
        rw [hr] at hR
        have HR := hide hr
        clear hr
        obtain ⟨z, hz⟩ : ∃ z, rdV x = z := ⟨_, rfl⟩
        rw [hz] at hR hv
        have htk : ((wds s).take k).map rdV ++ [z] = ((wds s).take (k + 1)).map rdV := by rw [List.take_add_one, HX.out, List.map_append, ← hz]; rfl
        have HTK := hide htk
        have hlen : (((wds s).take k).map rdV).length = k := by simp; omega
        clear htk hz
        go_wp2_with fail
        clear c1
        refine hR.mono ?_
        rintro e w5 ⟨rfl, hb5⟩
        have hO5 := hO.below hb5
        have hB5 := hBe.trans (hb5.mono hsz)
        have hB6 := hB2.all hb5
        have hs5 := hB5.size
        go_wp2_with (at_builtin; refine list_push _ rfl _ _ rfl w.heap.size _ _ rfl (hO5.alloc _) z w5.heap.size _ rfl (Blk.new _ _ _) (by rw [hlen]; omega) (by simp; omega) (by simp) ?_; intro g cap w8 hP)
        have hown := hP.own
        rw [HTK.out, hlen] at hown
        have HOw := hide hown
        have hbp := hP.below (hO5.alloc _) (by simp; omega)
        have hB7 := (hB5.alloc hs5 (.cells #[.int .i64 z] 2)).trans hbp
        have hB8 := hP.blk (hO5.alloc _) (hB6.alloc _) (by decide)
        have hmn : min k (wds s).length = k := by omega
        clear hown hP hO5 hO hlen
        go_roundw
        case rel => exact ⟨k + 1, by omega, by go_num, hide (fun j x hj hx => by
          rcases Nat.lt_succ_iff_lt_or_eq.1 hj with h2 | rfl
          · exact HP.out j x h2 hx
          · rw [HX.out] at hx; cases hx; exact HR.out), by (try rw [hmn]); exact HOw.out, hB7, hB8⟩
        case measure => simp [intOf] <;> omega
    · obtain rfl : k = n := by omega
      have hall : riB s = true := by
        unfold riB
        refine List.all_eq_true.2 fun x hx => ?_
        obtain ⟨j, hj, rfl⟩ := List.getElem_of_mem hx
        exact HP.out j _ (by omega) (List.getElem?_eq_getElem hj)
      have hT2 := hide hall
      have hL := hide (show riL s = (wds s).map rdV by unfold riL; rw [hall]; rfl)
      rw [List.take_of_length_le (by omega)] at hO
      have hrng : ∀ x ∈ (wds s).map rdV, i64ok x := fun x hx => by
        obtain ⟨y, hy, rfl⟩ := List.mem_map.1 hx
        exact rdV_ok (List.all_eq_true.1 hT2.out y hy)
      have HE := hide (E1.of_ow' hO hrng)
      clear hall hO hrng
      go_wp2_with fail
      refine bodyPost_ret (v := .tuple #[u4, .bool true]) (by simp [results, Tryz.results15, go_sem]) rfl ?_
      exact ⟨_, by rw [hT2.out], by rw [hL.out]; exact HE.out, hBe⟩
end Go.Proofs.YtkhkejdkakmiiaaGreatDoor
