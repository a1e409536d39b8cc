
/- Texts of numbers: strconv.FormatInt and strings.Join of the shelf; the program's decimal, joined. -/
import Derived.Test.YtkhkejdkakmiiaaGreatDoorNS
import Derived.Test.YtkhkejdkakmiiaaGreatDoorNa
import Derived.Shelf.LaysM
import Derived.Shelf.Strconv.Itoa4
import Derived.Shelf.Strings.OnBuilder
import Derived.Lib.ItoaLen
import Derived.Ground.NamesProg
import Derived.Shelf.Lay
namespace Go.Proofs.YtkhkejdkakmiiaaGreatDoor
open Go Go.RowKit Go.Shelf
set_option linter.unusedSimpArgs false
set_option linter.unusedVariables false
set_option maxRecDepth 100000
/-- The table of powers of ten lies. -/
def TbP (w : World) : Prop := Lib.TabIs Tryz.prog w "internal/strconv.uint64pow10" .u64 Lib.pow10Tab
theorem TbP.bel {w w' : World} (h : TbP w) (hb : Below w.heap.size w w') : TbP w' := by
  unfold TbP Lib.TabIs World.var? at h ⊢
  rw [show Tryz.prog.globalNamed "internal/strconv.uint64pow10" = some 3 by kernel_rfl] at h ⊢
  simp only [Option.bind_some] at h ⊢
  have hlt : 3 < w.heap.size := by
    rcases Nat.lt_or_ge 3 w.heap.size with h' | h'
    · exact h'
    · rw [Array.getElem?_eq_none h'] at h; cases h
  rw [hb.block _ hlt]
  exact h
theorem grow_below' (w : World) (k : Nat) (os : Array Obj) : Below w.heap.size w (Sort.grow (w.drewN k) os) := by
  refine ⟨rfl, rfl, rfl, by simp [Sort.grow, World.drewN], fun b hb => ?_⟩
  show (w.heap ++ os)[b]? = w.heap[b]?
  rw [Array.getElem?_append_left hb]
/-- A number's text. -/
def dec (n : Int) : ByteArray := ⟨(Lib.itoa n).toArray⟩
def fmtLay_ren : Go.Shelf.Ren := ⟨fun | 173 => 51 | 246 => 72 | 283 => 88 | 284 => 89 | 285 => 90 | 286 => 91 | 129 => 98 | 317 => 97 | 318 => 99 | 319 => 100 | 320 => 101 | 337 => 105 | 338 => 106 | n => n, fun | 2 => 2 | 3 => 3 | 9 => 9 | 4 => 4 | 171 => 105 | 0 => 0 | 53 => 79 | 37 => 65 | 5 => 5 | 173 => 108 | 212 => 118 | 51 => 93 | 20 => 20 | 213 => 119 | 46 => 76 | 232 => 131 | 233 => 132 | n => n, fun | 17 => 3 | 18 => 6 | 19 => 7 | n => n⟩
theorem fmtLay : Go.Proofs.LaysM.n173 Tryz.prog fmtLay_ren := {
  mixed := by kernel_rfl
  f129 := Tryz.func98.trans (congrArg some (by kernel_rfl))
  f173 := Tryz.func51.trans (congrArg some (by kernel_rfl))
  f246 := Tryz.func72.trans (congrArg some (by kernel_rfl))
  f283 := Tryz.func88.trans (congrArg some (by kernel_rfl))
  f284 := Tryz.func89.trans (congrArg some (by kernel_rfl))
  f285 := Tryz.func90.trans (congrArg some (by kernel_rfl))
  f286 := Tryz.func91.trans (congrArg some (by kernel_rfl))
  f317 := Tryz.func97.trans (congrArg some (by kernel_rfl))
  f318 := Tryz.func99.trans (congrArg some (by kernel_rfl))
  f319 := Tryz.func100.trans (congrArg some (by kernel_rfl))
  f320 := Tryz.func101.trans (congrArg some (by kernel_rfl))
  f337 := Tryz.func105.trans (congrArg some (by kernel_rfl))
  f338 := Tryz.func106.trans (congrArg some (by kernel_rfl))
  t0 := Tryz.underlying0
  a0 := Tryz.isAgg0
  z0 := Tryz.sizeOf0
  v0 := Tryz.zeroValue0
  t2 := Tryz.underlying2
  a2 := Tryz.isAgg2
  z2 := Tryz.sizeOf2
  v2 := Tryz.zeroValue2
  t3 := Tryz.underlying3
  a3 := Tryz.isAgg3
  z3 := Tryz.sizeOf3
  v3 := Tryz.zeroValue3
  t4 := Tryz.underlying4
  a4 := Tryz.isAgg4
  z4 := Tryz.sizeOf4
  v4 := Tryz.zeroValue4
  t5 := Tryz.underlying5
  a5 := Tryz.isAgg5
  z5 := Tryz.sizeOf5
  v5 := Tryz.zeroValue5
  t9 := Tryz.underlying9
  a9 := Tryz.isAgg9
  z9 := Tryz.sizeOf9
  v9 := Tryz.zeroValue9
  t20 := Tryz.underlying20
  a20 := Tryz.isAgg20
  z20 := Tryz.sizeOf20
  v20 := Tryz.zeroValue20
  t37 := Tryz.underlying65
  a37 := Tryz.isAgg65
  z37 := Tryz.sizeOf65
  v37 := Tryz.zeroValue65
  t46 := Tryz.underlying76
  a46 := Tryz.isAgg76
  z46 := Tryz.sizeOf76
  v46 := Tryz.zeroValue76
  t51 := Tryz.underlying93
  a51 := Tryz.isAgg93
  z51 := Tryz.sizeOf93
  v51 := Tryz.zeroValue93
  t53 := Tryz.underlying79
  a53 := Tryz.isAgg79
  z53 := Tryz.sizeOf79
  v53 := Tryz.zeroValue79
  t171 := Tryz.underlying105
  a171 := Tryz.isAgg105
  z171 := Tryz.sizeOf105
  v171 := Tryz.zeroValue105
  t173 := Tryz.underlying108
  a173 := Tryz.isAgg108
  z173 := Tryz.sizeOf108
  v173 := Tryz.zeroValue108
  t212 := Tryz.underlying118
  a212 := Tryz.isAgg118
  z212 := Tryz.sizeOf118
  v212 := Tryz.zeroValue118
  t213 := Tryz.underlying119
  a213 := Tryz.isAgg119
  z213 := Tryz.sizeOf119
  t232 := Tryz.underlying131
  a232 := Tryz.isAgg131
  z232 := Tryz.sizeOf131
  v232 := Tryz.zeroValue131
  t233 := Tryz.underlying132
  a233 := Tryz.isAgg132
  z233 := Tryz.sizeOf132
  v233 := Tryz.zeroValue132
  g17 := by kernel_rfl
  g18 := by kernel_rfl
  g19 := by kernel_rfl
  i0 := by kernel_rfl
  i2 := by kernel_rfl
  i3 := by kernel_rfl
  i4 := by kernel_rfl
  i5 := by kernel_rfl
  i9 := by kernel_rfl
  i20 := by kernel_rfl
  i37 := by kernel_rfl
  i46 := by kernel_rfl
  i51 := by kernel_rfl
  i53 := by kernel_rfl
  i171 := by kernel_rfl
  i173 := by kernel_rfl
  i212 := by kernel_rfl
  i232 := by kernel_rfl
  i233 := by kernel_rfl
  m17 := by kernel_rfl
  m18 := by kernel_rfl
  m19 := by kernel_rfl }
theorem decimal_any (w : World) (n : Int) (hn : i64ok n) (hT : TbP w) : Calls Tryz.prog 34 #[.int .i64 n] w (Re w (.string (dec n))) := by
  have h0 := hn.1
  have h1 := hn.2
  go_enter Tryz.func34, Tryz.ntmps34
  go_wp2_with fail
  refine (Any.strconv_FormatInt_10 fmtLay n (by omega) (by omega) w hT).mono ?_
  rintro e w' ⟨rfl, k, os, rfl⟩
  have hb := grow_below' w k os
  go_wp2
  go_ret
  exact ⟨rfl, hb⟩
def joinLay_ren : Go.Shelf.Ren := ⟨fun | 156 => 59 | 165 => 75 | 166 => 76 | 169 => 77 | 240 => 93 | 241 => 94 | 276 => 103 | 277 => 104 | n => n, fun | 31 => 30 | 9 => 9 | 3 => 3 | 4 => 4 | 0 => 0 | 20 => 20 | 72 => 88 | 76 => 90 | 70 => 86 | 37 => 65 | 75 => 55 | 127 => 113 | 164 => 123 | 5 => 5 | 80 => 92 | n => n, fun | n => n⟩
theorem joinLay : Go.Proofs.Lays.n156 Tryz.prog joinLay_ren := {
  mixed := by kernel_rfl
  f156 := Tryz.func59.trans (congrArg some (by kernel_rfl))
  f165 := Tryz.func75.trans (congrArg some (by kernel_rfl))
  f166 := Tryz.func76.trans (congrArg some (by kernel_rfl))
  f169 := Tryz.func77.trans (congrArg some (by kernel_rfl))
  f240 := Tryz.func93.trans (congrArg some (by kernel_rfl))
  f241 := Tryz.func94.trans (congrArg some (by kernel_rfl))
  f276 := Tryz.func103.trans (congrArg some (by kernel_rfl))
  f277 := Tryz.func104.trans (congrArg some (by kernel_rfl))
  t0 := Tryz.underlying0
  a0 := Tryz.isAgg0
  z0 := Tryz.sizeOf0
  v0 := Tryz.zeroValue0
  t3 := Tryz.underlying3
  a3 := Tryz.isAgg3
  z3 := Tryz.sizeOf3
  v3 := Tryz.zeroValue3
  t4 := Tryz.underlying4
  a4 := Tryz.isAgg4
  z4 := Tryz.sizeOf4
  v4 := Tryz.zeroValue4
  t9 := Tryz.underlying9
  a9 := Tryz.isAgg9
  z9 := Tryz.sizeOf9
  v9 := Tryz.zeroValue9
  t20 := Tryz.underlying20
  a20 := Tryz.isAgg20
  z20 := Tryz.sizeOf20
  v20 := Tryz.zeroValue20
  t31 := Tryz.underlying30
  a31 := Tryz.isAgg30
  z31 := Tryz.sizeOf30
  v31 := Tryz.zeroValue30
  t37 := Tryz.underlying65
  a37 := Tryz.isAgg65
  z37 := Tryz.sizeOf65
  v37 := Tryz.zeroValue65
  t70 := Tryz.underlying86
  a70 := Tryz.isAgg86
  z70 := Tryz.sizeOf86
  v70 := Tryz.zeroValue86
  t72 := Tryz.underlying88
  a72 := Tryz.isAgg88
  z72 := Tryz.sizeOf88
  v72 := Tryz.zeroValue88
  t75 := Tryz.underlying55
  a75 := Tryz.isAgg55
  z75 := Tryz.sizeOf55
  v75 := Tryz.zeroValue55
  t76 := Tryz.underlying90
  a76 := Tryz.isAgg90
  z76 := Tryz.sizeOf90
  v76 := Tryz.zeroValue90
  t127 := Tryz.underlying113
  a127 := Tryz.isAgg113
  z127 := Tryz.sizeOf113
  v127 := Tryz.zeroValue113
  t164 := Tryz.underlying123
  a164 := Tryz.isAgg123
  z164 := Tryz.sizeOf123
  v164 := Tryz.zeroValue123 }
theorem joinX : Builder.Extra Tryz.prog joinLay_ren where
  sizeBuilder := by kernel_rfl
  liesBuilder := by kernel_rfl
  t5 := by kernel_rfl
  a5 := fun _ => by kernel_rfl
  z5 := fun _ => by kernel_rfl
  v5 := fun _ => by kernel_rfl
  infoByte := by kernel_rfl
  cellsByte := by kernel_rfl
  sizeByte := by kernel_rfl
  neB5 := by decide
theorem str_info : (Tryz.prog.info? 9).map (fun i => (i.zero, i.size, i.bytes)) = some (some (.string ByteArray.empty), 1, 16) := by kernel_rfl
def decL (n : Int) : List UInt8 := Lib.itoa n
/-- The texts of numbers, joined by a blank. -/
def joinT (xs : List Int) : List UInt8 := Lib.join (xs.map decL) [32]
theorem lens_le (xs : List Int) (h : ∀ x ∈ xs, i64ok x) : Lib.lens (xs.map decL) ≤ 21 * xs.length := by
  induction xs with
  | nil => simp [Lib.lens]
  | cons x r ih =>
    have h1 := ih fun y hy => h y (by simp [hy])
    have h2 := Lib.itoa_length_le x (by have := (h x (by simp)).1; omega) (by have := (h x (by simp)).2; omega)
    unfold decL at h1 ⊢
    simp only [List.map_cons, Lib.lens, List.length_cons, List.sum_cons] at h1 ⊢
    omega
theorem joinT_len (xs : List Int) (h : ∀ x ∈ xs, i64ok x) : (joinT xs).length ≤ 22 * xs.length := by
  unfold joinT
  cases xs with
  | nil => simp [Lib.join_nil]
  | cons x r =>
    have h1 := lens_le (x :: r) h
    rw [List.map_cons] at h1 ⊢
    rw [Lib.join_length]
    simp only [List.length_cons, List.length_nil, List.length_map] at h1 ⊢
    omega
set_option maxHeartbeats 4000000 in
theorem joined_any (w : World) (B : Nat) (A : Option Addr) (n c : Nat) (xs : List Int) (h : Sl w B A n c xs) (hr : ∀ x ∈ xs, i64ok x) (hB : B ≤ w.heap.size) (hn : n ≤ 1048576) (hT : TbP w) :
    Calls Tryz.prog 41 #[.slice A n c, .string ⟨#[32]⟩] w (Re w (.string ⟨(joinT xs).toArray⟩)) := by
  obtain rfl := h.len
  have hO0 : OwV (w.alloc (.cells #[] 9)) w.heap.size 9 (.slice (some ⟨w.heap.size, 0, none⟩) 0 0) ((xs.take 0).map fun n => .string (dec n)) := OwV.made w _ _ rfl (Nat.le_refl _)
  have hb0 : Below w.heap.size w (w.alloc (.cells #[] 9)) := (Below.refl _ _).alloc (Nat.le_refl _) _
  have hJL := joinT_len xs hr
  go_enter Tryz.func41, Tryz.ntmps41
  go_wp2_with fail
  go_loopw [5, 11] (fun ws i wr => ∃ k : Nat, k ≤ xs.length ∧ i = .int .i64 k ∧ OwV wr w.heap.size 9 ws ((xs.take k).map fun n => .string (dec n)) ∧ Below w.heap.size w wr) (fun _ i _ => xs.length - (intOf i).toNat)
  case atStart => exact ⟨0, by omega, rfl, hO0, hb0⟩
  case round =>
    clear hO0 hb0
    obtain ⟨k, hk, rfl, hO, hBe⟩ := hrel
    have hsz := hBe.size
    by_cases hlt : k < xs.length
    · obtain ⟨b, off, rfl, hb, hc⟩ := h.at_ (by omega)
      have c1 := (hBe.cell (p := ⟨b, off + k, none⟩) (Nat.lt_of_lt_of_le hb hB)).trans (hc k hlt)
      obtain ⟨x, hx⟩ : ∃ x, gi xs k = x := ⟨_, rfl⟩
      have hxr : i64ok x := by rw [← hx]; exact hr _ (gi_mem hlt)
      rw [hx] at c1
      have htk : (xs.take k).map (fun n => Value.string (dec n)) ++ [.string (dec x)] = (xs.take (k + 1)).map fun n => .string (dec n) := by
        have hg : xs[k]? = some x := by
          rw [← hx]; unfold gi; rw [List.getD_eq_getElem?_getD, List.getElem?_eq_getElem hlt]; rfl
        rw [List.take_add_one, hg, List.map_append]; rfl
      have HTK := hide htk
      have hlk : ((xs.take k).map fun n => Value.string (dec n)).length = k := by simp; omega
      clear htk hx
      go_wp2_with fail
      clear c1
      refine (decimal_any _ x hxr (hT.bel hBe)).mono ?_
      rintro e w3 ⟨rfl, hb3⟩
      have hO3 := hO.bel hb3
      have hB3 := hBe.trans (hb3.mono hsz)
      have hs3 := hB3.size
      go_wp2_with (at_builtin; refine list_pushV 30 9 _ 16 (by kernel_rfl) str_info (by omega) rfl _ rfl _ _ rfl w.heap.size _ _ rfl (hO3.alloc _) (.string (dec x)) rfl w3.heap.size _ rfl (Blk.new _ _ _) (by rw [hlk]; omega) (by simp; omega) (by simp) ?_; intro g cap w8 hP)
      obtain ⟨p1, p2, p3, p4⟩ := hP
      rw [HTK.out, hlk] at p1
      have hB8 := (hB3.alloc (by omega) (.cells #[.string (dec x)] 9)).grown p2 (by simp; omega) (fun q hq => (hO3.lt q hq).1)
      have HP1 := hide p1
      have hmn : min k xs.length = k := by omega
      clear p1 p2 p3 p4 hO3 hO hlk
      go_roundw
      case rel => exact ⟨k + 1, by omega, by go_num, by (try rw [hmn]); exact HP1.out, hB8⟩
      case measure => simp [intOf] <;> omega
    · obtain rfl : k = xs.length := by omega
      rw [List.take_length] at hO
      rcases hO.form with ⟨rfl, h0⟩ | ⟨g, cap, rfl, h1, h2, h3, h4⟩
      · have h00 : xs = [] := by simpa using h0
        subst h00
        go_wp2_with fail
        refine (Any.strings_Join_none joinLay joinX none 0 ⟨#[32]⟩ _).mono ?_
        rintro e w3 ⟨rfl, rfl⟩
        go_wp2_with fail
        go_ret
        exact ⟨rfl, hBe⟩
      · rw [List.length_map] at h3
        have hcells : ∀ (j : Nat) x, (xs.map dec)[j]? = some x → wr.cell? ⟨g, 0 + j, none⟩ = some (.string x) := fun j x hx => by
          rw [Nat.zero_add]
          refine h4 j _ ?_
          rw [List.getElem?_map] at hx ⊢
          cases hg : xs[j]? with
          | none => rw [hg] at hx; cases hx
          | some y => rw [hg] at hx; cases hx; rfl
        have hmm : (xs.map dec).map (fun b => b.data.toList) = xs.map decL := by rw [List.map_map]; rfl
        have hJ := fun W (hW : ∀ (j : Nat) x, (xs.map dec)[j]? = some x → W.cell? ⟨g, 0 + j, none⟩ = some (.string x)) (hg : g < W.heap.size) => Any.strings_Join joinLay joinX g 0 cap (xs.map dec) ⟨#[32]⟩ W hW hg (by simp; omega) (by simpa using h3) (by rw [hmm]; unfold joinT at hJL; exact Nat.le_trans hJL (by omega))
        rw [List.length_map, hmm] at hJ
        have HJ := hide (hJ wr hcells h2)
        rw [List.length_map]
        clear hJ hmm hcells h4 hO hJL
        go_wp2_with fail
        refine HJ.out.mono ?_
        rintro e w3 ⟨rfl, hb3⟩
        have hB3 := hBe.trans (hb3.mono hsz)
        go_wp2_with fail
        go_ret
        exact ⟨rfl, hB3⟩
end Go.Proofs.YtkhkejdkakmiiaaGreatDoor
