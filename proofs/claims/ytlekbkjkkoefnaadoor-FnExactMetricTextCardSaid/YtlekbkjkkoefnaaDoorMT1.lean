
/- Texts of numbers: strconv.FormatInt and strings.Join of the shelf; the program's decimal, joined. -/
import Derived.Test.YtlekbkjkkoefnaaDoorNS
import Derived.Test.YtlekbkjkkoefnaaDoorNa
import Derived.Shelf.LaysM
import Derived.Shelf.Strconv.Itoa4
import Derived.Shelf.Strings.OnBuilder
import Derived.Lib.ItoaLen
import Derived.Ground.NamesProg
import Derived.Shelf.Lay
namespace Go.Proofs.YtlekbkjkkoefnaaDoor
open Go Go.RowKit Go.Shelf
set_option linter.unusedSimpArgs false
set_option linter.unusedVariables false
set_option maxRecDepth 100000
/-- The table of powers of ten lies. -/
def TbP (w : World) : Prop := Lib.TabIs Tryd.prog w "internal/strconv.uint64pow10" .u64 Lib.pow10Tab
theorem TbP.bel {w w' : World} (h : TbP w) (hb : Below w.heap.size w w') : TbP w' := by
  unfold TbP Lib.TabIs World.var? at h ⊢
  rw [show Tryd.prog.globalNamed "internal/strconv.uint64pow10" = some 1 by kernel_rfl] at h ⊢
  simp only [Option.bind_some] at h ⊢
  have hlt : 1 < w.heap.size := by
    rcases Nat.lt_or_ge 1 w.heap.size with h' | h'
    · exact h'
    · rw [Array.getElem?_eq_none h'] at h; cases h
  rw [hb.block _ hlt]
  exact h
theorem grow_below' (w : World) (k : Nat) (os : Array Obj) : Below w.heap.size w (Sort.grow (w.drewN k) os) := by
  refine ⟨rfl, rfl, rfl, by simp [Sort.grow, World.drewN], fun b hb => ?_⟩
  show (w.heap ++ os)[b]? = w.heap[b]?
  rw [Array.getElem?_append_left hb]
/-- A number's text. -/
def dec (n : Int) : ByteArray := ⟨(Lib.itoa n).toArray⟩
def fmtLay_ren : Go.Shelf.Ren := ⟨fun | 173 => 119 | 246 => 143 | 283 => 157 | 284 => 158 | 285 => 159 | 286 => 160 | 129 => 139 | 317 => 168 | 318 => 169 | 319 => 170 | 320 => 171 | 337 => 176 | 338 => 115 | n => n, fun | 2 => 2 | 3 => 3 | 9 => 9 | 4 => 4 | 171 => 146 | 0 => 0 | 53 => 71 | 37 => 99 | 5 => 5 | 173 => 148 | 212 => 160 | 51 => 120 | 20 => 20 | 213 => 161 | 46 => 95 | 232 => 170 | 233 => 121 | n => n, fun | 17 => 1 | 18 => 5 | 19 => 0 | n => n⟩
theorem fmtLay : Go.Proofs.LaysM.n173 Tryd.prog fmtLay_ren := {
  mixed := by kernel_rfl
  f129 := Tryd.func139.trans (congrArg some (by kernel_rfl))
  f173 := Tryd.func119.trans (congrArg some (by kernel_rfl))
  f246 := Tryd.func143.trans (congrArg some (by kernel_rfl))
  f283 := Tryd.func157.trans (congrArg some (by kernel_rfl))
  f284 := Tryd.func158.trans (congrArg some (by kernel_rfl))
  f285 := Tryd.func159.trans (congrArg some (by kernel_rfl))
  f286 := Tryd.func160.trans (congrArg some (by kernel_rfl))
  f317 := Tryd.func168.trans (congrArg some (by kernel_rfl))
  f318 := Tryd.func169.trans (congrArg some (by kernel_rfl))
  f319 := Tryd.func170.trans (congrArg some (by kernel_rfl))
  f320 := Tryd.func171.trans (congrArg some (by kernel_rfl))
  f337 := Tryd.func176.trans (congrArg some (by kernel_rfl))
  f338 := Tryd.func115.trans (congrArg some (by kernel_rfl))
  t0 := Tryd.underlying0
  a0 := Tryd.isAgg0
  z0 := Tryd.sizeOf0
  v0 := Tryd.zeroValue0
  t2 := Tryd.underlying2
  a2 := Tryd.isAgg2
  z2 := Tryd.sizeOf2
  v2 := Tryd.zeroValue2
  t3 := Tryd.underlying3
  a3 := Tryd.isAgg3
  z3 := Tryd.sizeOf3
  v3 := Tryd.zeroValue3
  t4 := Tryd.underlying4
  a4 := Tryd.isAgg4
  z4 := Tryd.sizeOf4
  v4 := Tryd.zeroValue4
  t5 := Tryd.underlying5
  a5 := Tryd.isAgg5
  z5 := Tryd.sizeOf5
  v5 := Tryd.zeroValue5
  t9 := Tryd.underlying9
  a9 := Tryd.isAgg9
  z9 := Tryd.sizeOf9
  v9 := Tryd.zeroValue9
  t20 := Tryd.underlying20
  a20 := Tryd.isAgg20
  z20 := Tryd.sizeOf20
  v20 := Tryd.zeroValue20
  t37 := Tryd.underlying99
  a37 := Tryd.isAgg99
  z37 := Tryd.sizeOf99
  v37 := Tryd.zeroValue99
  t46 := Tryd.underlying95
  a46 := Tryd.isAgg95
  z46 := Tryd.sizeOf95
  v46 := Tryd.zeroValue95
  t51 := Tryd.underlying120
  a51 := Tryd.isAgg120
  z51 := Tryd.sizeOf120
  v51 := Tryd.zeroValue120
  t53 := Tryd.underlying71
  a53 := Tryd.isAgg71
  z53 := Tryd.sizeOf71
  v53 := Tryd.zeroValue71
  t171 := Tryd.underlying146
  a171 := Tryd.isAgg146
  z171 := Tryd.sizeOf146
  v171 := Tryd.zeroValue146
  t173 := Tryd.underlying148
  a173 := Tryd.isAgg148
  z173 := Tryd.sizeOf148
  v173 := Tryd.zeroValue148
  t212 := Tryd.underlying160
  a212 := Tryd.isAgg160
  z212 := Tryd.sizeOf160
  v212 := Tryd.zeroValue160
  t213 := Tryd.underlying161
  a213 := Tryd.isAgg161
  z213 := Tryd.sizeOf161
  t232 := Tryd.underlying170
  a232 := Tryd.isAgg170
  z232 := Tryd.sizeOf170
  v232 := Tryd.zeroValue170
  t233 := Tryd.underlying121
  a233 := Tryd.isAgg121
  z233 := Tryd.sizeOf121
  v233 := Tryd.zeroValue121
  g17 := by kernel_rfl
  g18 := by kernel_rfl
  g19 := by kernel_rfl
  i0 := by kernel_rfl
  i2 := by kernel_rfl
  i3 := by kernel_rfl
  i4 := by kernel_rfl
  i5 := by kernel_rfl
  i9 := by kernel_rfl
  i20 := by kernel_rfl
  i37 := by kernel_rfl
  i46 := by kernel_rfl
  i51 := by kernel_rfl
  i53 := by kernel_rfl
  i171 := by kernel_rfl
  i173 := by kernel_rfl
  i212 := by kernel_rfl
  i232 := by kernel_rfl
  i233 := by kernel_rfl
  m17 := by kernel_rfl
  m18 := by kernel_rfl
  m19 := by kernel_rfl }
theorem decimal_any (w : World) (n : Int) (hn : i64ok n) (hT : TbP w) : Calls Tryd.prog 95 #[.int .i64 n] w (Re w (.string (dec n))) := by
  have h0 := hn.1
  have h1 := hn.2
  go_enter Tryd.func95, Tryd.ntmps95
  go_wp2_with fail
  refine (Any.strconv_FormatInt_10 fmtLay n (by omega) (by omega) w hT).mono ?_
  rintro e w' ⟨rfl, k, os, rfl⟩
  have hb := grow_below' w k os
  go_wp2
  go_ret
  exact ⟨rfl, hb⟩
def joinLay_ren : Go.Shelf.Ren := ⟨fun | 156 => 118 | 165 => 140 | 166 => 141 | 169 => 142 | 240 => 155 | 241 => 156 | 276 => 166 | 277 => 167 | n => n, fun | 31 => 100 | 9 => 9 | 3 => 3 | 4 => 4 | 0 => 0 | 20 => 20 | 72 => 124 | 76 => 128 | 70 => 122 | 37 => 99 | 75 => 127 | 127 => 144 | 164 => 155 | 5 => 5 | 80 => 130 | n => n, fun | n => n⟩
theorem joinLay : Go.Proofs.Lays.n156 Tryd.prog joinLay_ren := {
  mixed := by kernel_rfl
  f156 := Tryd.func118.trans (congrArg some (by kernel_rfl))
  f165 := Tryd.func140.trans (congrArg some (by kernel_rfl))
  f166 := Tryd.func141.trans (congrArg some (by kernel_rfl))
  f169 := Tryd.func142.trans (congrArg some (by kernel_rfl))
  f240 := Tryd.func155.trans (congrArg some (by kernel_rfl))
  f241 := Tryd.func156.trans (congrArg some (by kernel_rfl))
  f276 := Tryd.func166.trans (congrArg some (by kernel_rfl))
  f277 := Tryd.func167.trans (congrArg some (by kernel_rfl))
  t0 := Tryd.underlying0
  a0 := Tryd.isAgg0
  z0 := Tryd.sizeOf0
  v0 := Tryd.zeroValue0
  t3 := Tryd.underlying3
  a3 := Tryd.isAgg3
  z3 := Tryd.sizeOf3
  v3 := Tryd.zeroValue3
  t4 := Tryd.underlying4
  a4 := Tryd.isAgg4
  z4 := Tryd.sizeOf4
  v4 := Tryd.zeroValue4
  t9 := Tryd.underlying9
  a9 := Tryd.isAgg9
  z9 := Tryd.sizeOf9
  v9 := Tryd.zeroValue9
  t20 := Tryd.underlying20
  a20 := Tryd.isAgg20
  z20 := Tryd.sizeOf20
  v20 := Tryd.zeroValue20
  t31 := Tryd.underlying100
  a31 := Tryd.isAgg100
  z31 := Tryd.sizeOf100
  v31 := Tryd.zeroValue100
  t37 := Tryd.underlying99
  a37 := Tryd.isAgg99
  z37 := Tryd.sizeOf99
  v37 := Tryd.zeroValue99
  t70 := Tryd.underlying122
  a70 := Tryd.isAgg122
  z70 := Tryd.sizeOf122
  v70 := Tryd.zeroValue122
  t72 := Tryd.underlying124
  a72 := Tryd.isAgg124
  z72 := Tryd.sizeOf124
  v72 := Tryd.zeroValue124
  t75 := Tryd.underlying127
  a75 := Tryd.isAgg127
  z75 := Tryd.sizeOf127
  v75 := Tryd.zeroValue127
  t76 := Tryd.underlying128
  a76 := Tryd.isAgg128
  z76 := Tryd.sizeOf128
  v76 := Tryd.zeroValue128
  t127 := Tryd.underlying144
  a127 := Tryd.isAgg144
  z127 := Tryd.sizeOf144
  v127 := Tryd.zeroValue144
  t164 := Tryd.underlying155
  a164 := Tryd.isAgg155
  z164 := Tryd.sizeOf155
  v164 := Tryd.zeroValue155 }
theorem joinX : Builder.Extra Tryd.prog joinLay_ren where
  sizeBuilder := by kernel_rfl
  liesBuilder := by kernel_rfl
  t5 := by kernel_rfl
  a5 := fun _ => by kernel_rfl
  z5 := fun _ => by kernel_rfl
  v5 := fun _ => by kernel_rfl
  infoByte := by kernel_rfl
  cellsByte := by kernel_rfl
  sizeByte := by kernel_rfl
  neB5 := by decide
theorem str_info : (Tryd.prog.info? 9).map (fun i => (i.zero, i.size, i.bytes)) = some (some (.string ByteArray.empty), 1, 16) := by kernel_rfl
def decL (n : Int) : List UInt8 := Lib.itoa n
/-- The texts of numbers, joined by a blank. -/
def joinT (xs : List Int) : List UInt8 := Lib.join (xs.map decL) [32]
theorem lens_le (xs : List Int) (h : ∀ x ∈ xs, i64ok x) : Lib.lens (xs.map decL) ≤ 21 * xs.length := by
  induction xs with
  | nil => simp [Lib.lens]
  | cons x r ih =>
    have h1 := ih fun y hy => h y (by simp [hy])
    have h2 := Lib.itoa_length_le x (by have := (h x (by simp)).1; omega) (by have := (h x (by simp)).2; omega)
    unfold decL at h1 ⊢
    simp only [List.map_cons, Lib.lens, List.length_cons, List.sum_cons] at h1 ⊢
    omega
theorem joinT_len (xs : List Int) (h : ∀ x ∈ xs, i64ok x) : (joinT xs).length ≤ 22 * xs.length := by
  unfold joinT
  cases xs with
  | nil => simp [Lib.join_nil]
  | cons x r =>
    have h1 := lens_le (x :: r) h
    rw [List.map_cons] at h1 ⊢
    rw [Lib.join_length]
    simp only [List.length_cons, List.length_nil, List.length_map] at h1 ⊢
    omega
set_option maxHeartbeats 4000000 in
theorem joined_any (w : World) (B : Nat) (A : Option Addr) (n c : Nat) (xs : List Int) (h : Sl w B A n c xs) (hr : ∀ x ∈ xs, i64ok x) (hB : B ≤ w.heap.size) (hn : n ≤ 1048576) (hT : TbP w) :
    Calls Tryd.prog 94 #[.slice A n c, .string ⟨#[32]⟩] w (Re w (.string ⟨(joinT xs).toArray⟩)) := by
  obtain rfl := h.len
  have hO0 : OwV (w.alloc (.cells #[] 9)) w.heap.size 9 (.slice (some ⟨w.heap.size, 0, none⟩) 0 0) ((xs.take 0).map fun n => .string (dec n)) := OwV.made w _ _ rfl (Nat.le_refl _)
  have hb0 : Below w.heap.size w (w.alloc (.cells #[] 9)) := (Below.refl _ _).alloc (Nat.le_refl _) _
  have hJL := joinT_len xs hr
  go_enter Tryd.func94, Tryd.ntmps94
  go_wp2_with fail
  go_loopw [5, 11] (fun ws i wr => ∃ k : Nat, k ≤ xs.length ∧ i = .int .i64 k ∧ OwV wr w.heap.size 9 ws ((xs.take k).map fun n => .string (dec n)) ∧ Below w.heap.size w wr) (fun _ i _ => xs.length - (intOf i).toNat)
  case atStart => exact ⟨0, by omega, rfl, hO0, hb0⟩
  case round =>
    clear hO0 hb0
    obtain ⟨k, hk, rfl, hO, hBe⟩ := hrel
    have hsz := hBe.size
    by_cases hlt : k < xs.length
    · obtain ⟨b, off, rfl, hb, hc⟩ := h.at_ (by omega)
      have c1 := (hBe.cell (p := ⟨b, off + k, none⟩) (Nat.lt_of_lt_of_le hb hB)).trans (hc k hlt)
      obtain ⟨x, hx⟩ : ∃ x, gi xs k = x := ⟨_, rfl⟩
      have hxr : i64ok x := by rw [← hx]; exact hr _ (gi_mem hlt)
      rw [hx] at c1
      have htk : (xs.take k).map (fun n => Value.string (dec n)) ++ [.string (dec x)] = (xs.take (k + 1)).map fun n => .string (dec n) := by
        have hg : xs[k]? = some x := by
          rw [← hx]; unfold gi; rw [List.getD_eq_getElem?_getD, List.getElem?_eq_getElem hlt]; rfl
        rw [List.take_add_one, hg, List.map_append]; rfl
      have HTK := hide htk
      have hlk : ((xs.take k).map fun n => Value.string (dec n)).length = k := by simp; omega
      clear htk hx
      go_wp2_with fail
      clear c1
      refine (decimal_any _ x hxr (hT.bel hBe)).mono ?_
      rintro e w3 ⟨rfl, hb3⟩
      have hO3 := hO.bel hb3
      have hB3 := hBe.trans (hb3.mono hsz)
      have hs3 := hB3.size
      go_wp2_with (at_builtin; refine list_pushV 100 9 _ 16 (by kernel_rfl) str_info (by omega) rfl _ rfl _ _ rfl w.heap.size _ _ rfl (hO3.alloc _) (.string (dec x)) rfl w3.heap.size _ rfl (Blk.new _ _ _) (by rw [hlk]; omega) (by simp; omega) (by simp) ?_; intro g cap w8 hP)
      obtain ⟨p1, p2, p3, p4⟩ := hP
      rw [HTK.out, hlk] at p1
      have hB8 := (hB3.alloc (by omega) (.cells #[.string (dec x)] 9)).grown p2 (by simp; omega) (fun q hq => (hO3.lt q hq).1)
      have HP1 := hide p1
      have hmn : min k xs.length = k := by omega
      clear p1 p2 p3 p4 hO3 hO hlk
      go_roundw
      case rel => exact ⟨k + 1, by omega, by go_num, by (try rw [hmn]); exact HP1.out, hB8⟩
      case measure => simp [intOf] <;> omega
    · obtain rfl : k = xs.length := by omega
      rw [List.take_length] at hO
      rcases hO.form with ⟨rfl, h0⟩ | ⟨g, cap, rfl, h1, h2, h3, h4⟩
      · have h00 : xs = [] := by simpa using h0
        subst h00
        go_wp2_with fail
        refine (Any.strings_Join_none joinLay joinX none 0 ⟨#[32]⟩ _).mono ?_
        rintro e w3 ⟨rfl, rfl⟩
        go_wp2_with fail
        go_ret
        exact ⟨rfl, hBe⟩
      · rw [List.length_map] at h3
        have hcells : ∀ (j : Nat) x, (xs.map dec)[j]? = some x → wr.cell? ⟨g, 0 + j, none⟩ = some (.string x) := fun j x hx => by
          rw [Nat.zero_add]
          refine h4 j _ ?_
          rw [List.getElem?_map] at hx ⊢
          cases hg : xs[j]? with
          | none => rw [hg] at hx; cases hx
          | some y => rw [hg] at hx; cases hx; rfl
        have hmm : (xs.map dec).map (fun b => b.data.toList) = xs.map decL := by rw [List.map_map]; rfl
        have hJ := fun W (hW : ∀ (j : Nat) x, (xs.map dec)[j]? = some x → W.cell? ⟨g, 0 + j, none⟩ = some (.string x)) (hg : g < W.heap.size) => Any.strings_Join joinLay joinX g 0 cap (xs.map dec) ⟨#[32]⟩ W hW hg (by simp; omega) (by simpa using h3) (by rw [hmm]; unfold joinT at hJL; exact Nat.le_trans hJL (by omega))
        rw [List.length_map, hmm] at hJ
        have HJ := hide (hJ wr hcells h2)
        rw [List.length_map]
        clear hJ hmm hcells h4 hO hJL
        go_wp2_with fail
        refine HJ.out.mono ?_
        rintro e w3 ⟨rfl, hb3⟩
        have hB3 := hBe.trans (hb3.mono hsz)
        go_wp2_with fail
        go_ret
        exact ⟨rfl, hB3⟩
end Go.Proofs.YtlekbkjkkoefnaaDoor
