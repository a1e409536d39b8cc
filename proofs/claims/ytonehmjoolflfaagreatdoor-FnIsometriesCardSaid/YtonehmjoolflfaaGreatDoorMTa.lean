
/- Texts of numbers: strconv.FormatInt and strings.Join of the shelf; the program's decimal, joined. Texts of numbers: the reference's l01Dec, l10List. Texts of metrics: the reference's l10List, l10Text, the program's metricText. MetricText of both sides, told by the metric's lists. -/
import Derived.Test.YtonehmjoolflfaaGreatDoorNa
import Derived.Shelf.LaysM
import Derived.Shelf.Strconv.Itoa4
import Derived.Shelf.Strings.OnBuilder
import Derived.Lib.ItoaLen
import Derived.Ground.NamesProg
import Derived.Shelf.Lay
import Derived.Test.YtonehmjoolflfaaGreatDoorBa
import Derived.Laws.IdiomStrings
import Derived.Test.YtonehmjoolflfaaGreatDoorOra
import Derived.Test.YtonehmjoolflfaaGreatDoorEa
namespace Go.Proofs.YtonehmjoolflfaaGreatDoor
open Go Go.RowKit Go.Shelf Grp
set_option linter.unusedSimpArgs false
set_option linter.unusedVariables false
set_option maxRecDepth 100000
/-- The table of powers of ten lies. -/
def TbP (w : World) : Prop := Lib.TabIs Tryz.prog w "internal/strconv.uint64pow10" .u64 Lib.pow10Tab
theorem TbP.bel {w w' : World} (h : TbP w) (hb : Below w.heap.size w w') : TbP w' := by
  unfold TbP Lib.TabIs World.var? at h ⊢
  rw [show Tryz.prog.globalNamed "internal/strconv.uint64pow10" = some 3 by kernel_rfl] at h ⊢
  simp only [Option.bind_some] at h ⊢
  have hlt : 3 < w.heap.size := by
    rcases Nat.lt_or_ge 3 w.heap.size with h' | h'
    · exact h'
    · rw [Array.getElem?_eq_none h'] at h; cases h
  rw [hb.block _ hlt]
  exact h
theorem grow_below' (w : World) (k : Nat) (os : Array Obj) : Below w.heap.size w (Sort.grow (w.drewN k) os) := by
  refine ⟨rfl, rfl, rfl, by simp [Sort.grow, World.drewN], fun b hb => ?_⟩
  show (w.heap ++ os)[b]? = w.heap[b]?
  rw [Array.getElem?_append_left hb]
/-- A number's text. -/
def dec (n : Int) : ByteArray := ⟨(Lib.itoa n).toArray⟩
def fmtLay_ren : Go.Shelf.Ren := ⟨fun | 173 => 105 | 246 => 116 | 283 => 131 | 284 => 132 | 285 => 133 | 286 => 134 | 129 => 148 | 317 => 147 | 318 => 149 | 319 => 150 | 320 => 151 | 337 => 154 | 338 => 155 | n => n, fun | 2 => 2 | 3 => 3 | 9 => 9 | 4 => 4 | 171 => 139 | 0 => 0 | 53 => 37 | 37 => 22 | 5 => 5 | 173 => 142 | 212 => 160 | 51 => 144 | 20 => 20 | 213 => 161 | 46 => 55 | 232 => 172 | 233 => 173 | n => n, fun | 17 => 3 | 18 => 6 | 19 => 7 | n => n⟩
theorem fmtLay : Go.Proofs.LaysM.n173 Tryz.prog fmtLay_ren := {
  mixed := by kernel_rfl
  f129 := Tryz.func148.trans (congrArg some (by kernel_rfl))
  f173 := Tryz.func105.trans (congrArg some (by kernel_rfl))
  f246 := Tryz.func116.trans (congrArg some (by kernel_rfl))
  f283 := Tryz.func131.trans (congrArg some (by kernel_rfl))
  f284 := Tryz.func132.trans (congrArg some (by kernel_rfl))
  f285 := Tryz.func133.trans (congrArg some (by kernel_rfl))
  f286 := Tryz.func134.trans (congrArg some (by kernel_rfl))
  f317 := Tryz.func147.trans (congrArg some (by kernel_rfl))
  f318 := Tryz.func149.trans (congrArg some (by kernel_rfl))
  f319 := Tryz.func150.trans (congrArg some (by kernel_rfl))
  f320 := Tryz.func151.trans (congrArg some (by kernel_rfl))
  f337 := Tryz.func154.trans (congrArg some (by kernel_rfl))
  f338 := Tryz.func155.trans (congrArg some (by kernel_rfl))
  t0 := Tryz.underlying0
  a0 := Tryz.isAgg0
  z0 := Tryz.sizeOf0
  v0 := Tryz.zeroValue0
  t2 := Tryz.underlying2
  a2 := Tryz.isAgg2
  z2 := Tryz.sizeOf2
  v2 := Tryz.zeroValue2
  t3 := Tryz.underlying3
  a3 := Tryz.isAgg3
  z3 := Tryz.sizeOf3
  v3 := Tryz.zeroValue3
  t4 := Tryz.underlying4
  a4 := Tryz.isAgg4
  z4 := Tryz.sizeOf4
  v4 := Tryz.zeroValue4
  t5 := Tryz.underlying5
  a5 := Tryz.isAgg5
  z5 := Tryz.sizeOf5
  v5 := Tryz.zeroValue5
  t9 := Tryz.underlying9
  a9 := Tryz.isAgg9
  z9 := Tryz.sizeOf9
  v9 := Tryz.zeroValue9
  t20 := Tryz.underlying20
  a20 := Tryz.isAgg20
  z20 := Tryz.sizeOf20
  v20 := Tryz.zeroValue20
  t37 := Tryz.underlying22
  a37 := Tryz.isAgg22
  z37 := Tryz.sizeOf22
  v37 := Tryz.zeroValue22
  t46 := Tryz.underlying55
  a46 := Tryz.isAgg55
  z46 := Tryz.sizeOf55
  v46 := Tryz.zeroValue55
  t51 := Tryz.underlying144
  a51 := Tryz.isAgg144
  z51 := Tryz.sizeOf144
  v51 := Tryz.zeroValue144
  t53 := Tryz.underlying37
  a53 := Tryz.isAgg37
  z53 := Tryz.sizeOf37
  v53 := Tryz.zeroValue37
  t171 := Tryz.underlying139
  a171 := Tryz.isAgg139
  z171 := Tryz.sizeOf139
  v171 := Tryz.zeroValue139
  t173 := Tryz.underlying142
  a173 := Tryz.isAgg142
  z173 := Tryz.sizeOf142
  v173 := Tryz.zeroValue142
  t212 := Tryz.underlying160
  a212 := Tryz.isAgg160
  z212 := Tryz.sizeOf160
  v212 := Tryz.zeroValue160
  t213 := Tryz.underlying161
  a213 := Tryz.isAgg161
  z213 := Tryz.sizeOf161
  t232 := Tryz.underlying172
  a232 := Tryz.isAgg172
  z232 := Tryz.sizeOf172
  v232 := Tryz.zeroValue172
  t233 := Tryz.underlying173
  a233 := Tryz.isAgg173
  z233 := Tryz.sizeOf173
  v233 := Tryz.zeroValue173
  g17 := by kernel_rfl
  g18 := by kernel_rfl
  g19 := by kernel_rfl
  i0 := by kernel_rfl
  i2 := by kernel_rfl
  i3 := by kernel_rfl
  i4 := by kernel_rfl
  i5 := by kernel_rfl
  i9 := by kernel_rfl
  i20 := by kernel_rfl
  i37 := by kernel_rfl
  i46 := by kernel_rfl
  i51 := by kernel_rfl
  i53 := by kernel_rfl
  i171 := by kernel_rfl
  i173 := by kernel_rfl
  i212 := by kernel_rfl
  i232 := by kernel_rfl
  i233 := by kernel_rfl
  m17 := by kernel_rfl
  m18 := by kernel_rfl
  m19 := by kernel_rfl }
theorem decimal_any (w : World) (n : Int) (hn : i64ok n) (hT : TbP w) : Calls Tryz.prog 75 #[.int .i64 n] w (Re w (.string (dec n))) := by
  have h0 := hn.1
  have h1 := hn.2
  go_enter Tryz.func75, Tryz.ntmps75
  go_wp2_with fail
  refine (Any.strconv_FormatInt_10 fmtLay n (by omega) (by omega) w hT).mono ?_
  rintro e w' ⟨rfl, k, os, rfl⟩
  have hb := grow_below' w k os
  go_wp2
  go_ret
  exact ⟨rfl, hb⟩
def joinLay_ren : Go.Shelf.Ren := ⟨fun | 156 => 104 | 165 => 113 | 166 => 114 | 169 => 115 | 240 => 129 | 241 => 130 | 276 => 145 | 277 => 146 | n => n, fun | 31 => 69 | 9 => 9 | 3 => 3 | 4 => 4 | 0 => 0 | 20 => 20 | 72 => 123 | 76 => 125 | 70 => 121 | 37 => 22 | 75 => 97 | 127 => 137 | 164 => 156 | 5 => 5 | 80 => 127 | n => n, fun | n => n⟩
theorem joinLay : Go.Proofs.Lays.n156 Tryz.prog joinLay_ren := {
  mixed := by kernel_rfl
  f156 := Tryz.func104.trans (congrArg some (by kernel_rfl))
  f165 := Tryz.func113.trans (congrArg some (by kernel_rfl))
  f166 := Tryz.func114.trans (congrArg some (by kernel_rfl))
  f169 := Tryz.func115.trans (congrArg some (by kernel_rfl))
  f240 := Tryz.func129.trans (congrArg some (by kernel_rfl))
  f241 := Tryz.func130.trans (congrArg some (by kernel_rfl))
  f276 := Tryz.func145.trans (congrArg some (by kernel_rfl))
  f277 := Tryz.func146.trans (congrArg some (by kernel_rfl))
  t0 := Tryz.underlying0
  a0 := Tryz.isAgg0
  z0 := Tryz.sizeOf0
  v0 := Tryz.zeroValue0
  t3 := Tryz.underlying3
  a3 := Tryz.isAgg3
  z3 := Tryz.sizeOf3
  v3 := Tryz.zeroValue3
  t4 := Tryz.underlying4
  a4 := Tryz.isAgg4
  z4 := Tryz.sizeOf4
  v4 := Tryz.zeroValue4
  t9 := Tryz.underlying9
  a9 := Tryz.isAgg9
  z9 := Tryz.sizeOf9
  v9 := Tryz.zeroValue9
  t20 := Tryz.underlying20
  a20 := Tryz.isAgg20
  z20 := Tryz.sizeOf20
  v20 := Tryz.zeroValue20
  t31 := Tryz.underlying69
  a31 := Tryz.isAgg69
  z31 := Tryz.sizeOf69
  v31 := Tryz.zeroValue69
  t37 := Tryz.underlying22
  a37 := Tryz.isAgg22
  z37 := Tryz.sizeOf22
  v37 := Tryz.zeroValue22
  t70 := Tryz.underlying121
  a70 := Tryz.isAgg121
  z70 := Tryz.sizeOf121
  v70 := Tryz.zeroValue121
  t72 := Tryz.underlying123
  a72 := Tryz.isAgg123
  z72 := Tryz.sizeOf123
  v72 := Tryz.zeroValue123
  t75 := Tryz.underlying97
  a75 := Tryz.isAgg97
  z75 := Tryz.sizeOf97
  v75 := Tryz.zeroValue97
  t76 := Tryz.underlying125
  a76 := Tryz.isAgg125
  z76 := Tryz.sizeOf125
  v76 := Tryz.zeroValue125
  t127 := Tryz.underlying137
  a127 := Tryz.isAgg137
  z127 := Tryz.sizeOf137
  v127 := Tryz.zeroValue137
  t164 := Tryz.underlying156
  a164 := Tryz.isAgg156
  z164 := Tryz.sizeOf156
  v164 := Tryz.zeroValue156 }
theorem joinX : Builder.Extra Tryz.prog joinLay_ren where
  sizeBuilder := by kernel_rfl
  liesBuilder := by kernel_rfl
  t5 := by kernel_rfl
  a5 := fun _ => by kernel_rfl
  z5 := fun _ => by kernel_rfl
  v5 := fun _ => by kernel_rfl
  infoByte := by kernel_rfl
  cellsByte := by kernel_rfl
  sizeByte := by kernel_rfl
  neB5 := by decide
theorem str_info : (Tryz.prog.info? 9).map (fun i => (i.zero, i.size, i.bytes)) = some (some (.string ByteArray.empty), 1, 16) := by kernel_rfl
def decL (n : Int) : List UInt8 := Lib.itoa n
/-- The texts of numbers, joined by a blank. -/
def joinT (xs : List Int) : List UInt8 := Lib.join (xs.map decL) [32]
theorem lens_le (xs : List Int) (h : ∀ x ∈ xs, i64ok x) : Lib.lens (xs.map decL) ≤ 21 * xs.length := by
  induction xs with
  | nil => simp [Lib.lens]
  | cons x r ih =>
    have h1 := ih fun y hy => h y (by simp [hy])
    have h2 := Lib.itoa_length_le x (by have := (h x (by simp)).1; omega) (by have := (h x (by simp)).2; omega)
    unfold decL at h1 ⊢
    simp only [List.map_cons, Lib.lens, List.length_cons, List.sum_cons] at h1 ⊢
    omega
theorem joinT_len (xs : List Int) (h : ∀ x ∈ xs, i64ok x) : (joinT xs).length ≤ 22 * xs.length := by
  unfold joinT
  cases xs with
  | nil => simp [Lib.join_nil]
  | cons x r =>
    have h1 := lens_le (x :: r) h
    rw [List.map_cons] at h1 ⊢
    rw [Lib.join_length]
    simp only [List.length_cons, List.length_nil, List.length_map] at h1 ⊢
    omega
set_option maxHeartbeats 4000000 in
theorem joined_any (w : World) (B : Nat) (A : Option Addr) (n c : Nat) (xs : List Int) (h : Sl w B A n c xs) (hr : ∀ x ∈ xs, i64ok x) (hB : B ≤ w.heap.size) (hn : n ≤ 1073741824) (hT : TbP w) :
    Calls Tryz.prog 74 #[.slice A n c, .string ⟨#[32]⟩] w (Re w (.string ⟨(joinT xs).toArray⟩)) := by
  obtain rfl := h.len
  have hO0 : OwV (w.alloc (.cells #[] 9)) w.heap.size 9 (.slice (some ⟨w.heap.size, 0, none⟩) 0 0) ((xs.take 0).map fun n => .string (dec n)) := OwV.made w _ _ rfl (Nat.le_refl _)
  have hb0 : Below w.heap.size w (w.alloc (.cells #[] 9)) := (Below.refl _ _).alloc (Nat.le_refl _) _
  have hJL := joinT_len xs hr
  go_enter Tryz.func74, Tryz.ntmps74
  go_wp2_with fail
  go_loopw [5, 11] (fun ws i wr => ∃ k : Nat, k ≤ xs.length ∧ i = .int .i64 k ∧ OwV wr w.heap.size 9 ws ((xs.take k).map fun n => .string (dec n)) ∧ Below w.heap.size w wr) (fun _ i _ => xs.length - (intOf i).toNat)
  case atStart => exact ⟨0, by omega, rfl, hO0, hb0⟩
  case round =>
    clear hO0 hb0
    obtain ⟨k, hk, rfl, hO, hBe⟩ := hrel
    have hsz := hBe.size
    by_cases hlt : k < xs.length
    · obtain ⟨b, off, rfl, hb, hc⟩ := h.at_ (by omega)
      have c1 := (hBe.cell (p := ⟨b, off + k, none⟩) (Nat.lt_of_lt_of_le hb hB)).trans (hc k hlt)
      obtain ⟨x, hx⟩ : ∃ x, gi xs k = x := ⟨_, rfl⟩
      have hxr : i64ok x := by rw [← hx]; exact hr _ (gi_mem hlt)
      rw [hx] at c1
      have htk : (xs.take k).map (fun n => Value.string (dec n)) ++ [.string (dec x)] = (xs.take (k + 1)).map fun n => .string (dec n) := by
        have hg : xs[k]? = some x := by
          rw [← hx]; unfold gi; rw [List.getD_eq_getElem?_getD, List.getElem?_eq_getElem hlt]; rfl
        rw [List.take_add_one, hg, List.map_append]; rfl
      have HTK := hide htk
      have hlk : ((xs.take k).map fun n => Value.string (dec n)).length = k := by simp; omega
      clear htk hx
      go_wp2_with fail
      clear c1
      refine (decimal_any _ x hxr (hT.bel hBe)).mono ?_
      rintro e w3 ⟨rfl, hb3⟩
      have hO3 := hO.bel hb3
      have hB3 := hBe.trans (hb3.mono hsz)
      have hs3 := hB3.size
      go_wp2_with (at_builtin; refine list_pushV 69 9 _ 16 (by kernel_rfl) str_info (by omega) rfl _ rfl _ _ rfl w.heap.size _ _ rfl (hO3.alloc _) (.string (dec x)) rfl w3.heap.size _ rfl (Blk.new _ _ _) (by rw [hlk]; omega) (by simp; omega) (by simp) ?_; intro g cap w8 hP)
      obtain ⟨p1, p2, p3, p4⟩ := hP
      rw [HTK.out, hlk] at p1
      have hB8 := (hB3.alloc (by omega) (.cells #[.string (dec x)] 9)).grown p2 (by simp; omega) (fun q hq => (hO3.lt q hq).1)
      have HP1 := hide p1
      have hmn : min k xs.length = k := by omega
      clear p1 p2 p3 p4 hO3 hO hlk
      go_roundw
      case rel => exact ⟨k + 1, by omega, by go_num, by (try rw [hmn]); exact HP1.out, hB8⟩
      case measure => simp [intOf] <;> omega
    · obtain rfl : k = xs.length := by omega
      rw [List.take_length] at hO
      rcases hO.form with ⟨rfl, h0⟩ | ⟨g, cap, rfl, h1, h2, h3, h4⟩
      · have h00 : xs = [] := by simpa using h0
        subst h00
        go_wp2_with fail
        refine (Any.strings_Join_none joinLay joinX none 0 ⟨#[32]⟩ _).mono ?_
        rintro e w3 ⟨rfl, rfl⟩
        go_wp2_with fail
        go_ret
        exact ⟨rfl, hBe⟩
      · rw [List.length_map] at h3
        have hcells : ∀ (j : Nat) x, (xs.map dec)[j]? = some x → wr.cell? ⟨g, 0 + j, none⟩ = some (.string x) := fun j x hx => by
          rw [Nat.zero_add]
          refine h4 j _ ?_
          rw [List.getElem?_map] at hx ⊢
          cases hg : xs[j]? with
          | none => rw [hg] at hx; cases hx
          | some y => rw [hg] at hx; cases hx; rfl
        have hmm : (xs.map dec).map (fun b => b.data.toList) = xs.map decL := by rw [List.map_map]; rfl
        have hJ := fun W (hW : ∀ (j : Nat) x, (xs.map dec)[j]? = some x → W.cell? ⟨g, 0 + j, none⟩ = some (.string x)) (hg : g < W.heap.size) => Any.strings_Join joinLay joinX g 0 cap (xs.map dec) ⟨#[32]⟩ W hW hg (by simp; omega) (by simpa using h3) (by rw [hmm]; unfold joinT at hJL; exact Nat.le_trans hJL (by omega))
        rw [List.length_map, hmm] at hJ
        have HJ := hide (hJ wr hcells h2)
        rw [List.length_map]
        clear hJ hmm hcells h4 hO hJL
        go_wp2_with fail
        refine HJ.out.mono ?_
        rintro e w3 ⟨rfl, hb3⟩
        have hB3 := hBe.trans (hb3.mono hsz)
        go_wp2_with fail
        go_ret
        exact ⟨rfl, hB3⟩
theorem dec_size {n : Int} (h : i64ok n) : (dec n).size ≤ 21 := by
  have := Lib.itoa_length_le n (by have := h.1; omega) (by have := h.2; omega)
  unfold dec
  rw [Lib.size_eq]
  simpa using this
theorem dec_small {n : Nat} (h : n < 10) : dec n = ⟨#[UInt8.ofNat (48 + n)]⟩ := by
  unfold dec
  rw [Lib.itoa_nonneg, Lib.decDigits_one h]
theorem dec_big {n : Nat} (h : ¬ n < 10) : dec n = dec ((n / 10 : Nat) : Int) ++ ⟨#[UInt8.ofNat (48 + n % 10)]⟩ := by
  unfold dec
  rw [Lib.itoa_nonneg, Lib.itoa_nonneg]
  have : Lib.decDigits n = Lib.decDigits (n / 10) ++ [UInt8.ofNat (48 + n % 10)] := by
    conv => lhs; rw [Lib.decDigits]
    rw [dif_neg h]
  rw [this]
  apply ByteArray.ext
  simp
/-- One byte, turned into a text. -/
theorem conv1 (w : World) (g : Nat) (x : Int) (y : Nat) (hy : y < 256) (hx : x = y) (hc : w.cell? ⟨g, 0, none⟩ = some (.int .u8 x)) :
    (convert 22 9 (.slice (some ⟨g, 0, none⟩) 1 1)).run Tryz.prog w = .ok (.string ⟨#[UInt8.ofNat y]⟩) w := by
  refine run_convert_bytes_back w 22 9 5 ⟨g, 0, none⟩ 1 [UInt8.ofNat y] (by kernel_rfl) (by kernel_rfl) (by kernel_rfl) ?_
  intro j hj
  have : j = 0 := by simpa using hj
  subst this
  rw [hx] at hc
  have e : (⟨g, 0, none⟩ : Addr).add 0 = ⟨g, 0, none⟩ := rfl
  rw [e, hc]
  simp only [List.getElem_cons_zero, UInt8.toNat_ofNat', Nat.mod_eq_of_lt (show y < 2 ^ 8 by omega)]
set_option maxHeartbeats 4000000 in
theorem l01Dec_any (n : Nat) : n ≤ 9223372036854775807 → ∀ w : World, Calls Tryz.prog 77 #[.int .i64 n] w (Re w (.string (dec n))) := by
  induction n using Nat.strongRecOn with
  | ind n ih =>
    intro hn w
    by_cases h : n < 10
    · have HD := hide (dec_small h)
      have hlt : (n : Int) < 10 := by omega
      have hw1 : IntKind.i64.wrap (48 + (n : Int)) = 48 + n := wr64 _ ⟨by omega, by omega⟩
      have hcv := conv1 (w.alloc (.cells #[.int .u8 (48 + (n : Int))] 5)) w.heap.size (48 + (n : Int)) (48 + n) (by omega) (by omega) (by go_simp)
      go_enter Tryz.func77, Tryz.ntmps77
      go_wp2_with fail
      go_ret
      exact ⟨by rw [HD.out]; simp, (by repeat (first | assumption | exact Below.refl _ _ | apply below_drewN | apply Below.drew | apply Below.alloc | apply Below.setCell | omega | (focus (simp; done)) | (focus (simp; omega))))⟩
    · have HD := hide (dec_big h)
      have hlt : ¬ (n : Int) < 10 := by omega
      have hd1 : (n : Int).tdiv 10 = ((n / 10 : Nat) : Int) := by rw [Int.tdiv_eq_ediv_of_nonneg (by omega)]; omega
      have hm1 : (n : Int).tmod 10 = ((n % 10 : Nat) : Int) := by rw [Int.tmod_eq_emod_of_nonneg (by omega)]; omega
      obtain ⟨q, hq⟩ : ∃ q, n / 10 = q := ⟨_, rfl⟩
      obtain ⟨r, hr⟩ : ∃ r, n % 10 = r := ⟨_, rfl⟩
      have hr10 : r < 10 := by omega
      have hqn : q < n := by omega
      have hrec := ih q hqn (by omega)
      rw [hq, hr] at HD
      rw [hq] at hd1
      rw [hr] at hm1
      have HREC := hide hrec
      have hw1 : IntKind.i64.wrap (48 + (r : Int)) = 48 + r := wr64 _ ⟨by omega, by omega⟩
      have hwq : IntKind.i64.wrap (q : Int) = q := wr64 _ ⟨by omega, by omega⟩
      have hwu : IntKind.u8.wrap (48 + (r : Int)) = 48 + r := by rw [IntKind.wrap_u8]; omega
      have hcat : ¬ 9223372036854775807 < (dec (q : Int)).size + 1 := by have := dec_size (n := (q : Int)) ⟨by omega, by omega⟩; omega
      clear hrec ih hq hr
      go_enter Tryz.func77, Tryz.ntmps77
      go_wp2_with fail
      refine OtS.wp_region_os (.one 0 (.one 1 (.one 3 (.one 4 (.one 5 (.one 6 (.two 2 (.one 7 (.one 8 (.one 9 (.one 10 .nil)))) 7 (.two 2 (.one 8 (.one 9 (.one 10 .nil))) 8 (.one 2 (.one 9 (.one 10 .nil))))))))))) [0, 1, 3, 4, 5, 6] (by kernel_rfl) (by kernel_rfl) (by kernel_rfl) (fun _ _ _ _ _ h => h) (fun wd hBe => ?_)
      repeat (apply OtS.os_tk rfl (by rfl) (by rfl) (by rfl); (focus (intro wx hSw; clear hSw; go_simp; (try with_reducible rfl))); (try simp only [Act.put, List.setIfInBounds_toArray, List.set_cons_zero, List.set_cons_succ]))
      refine OtS.os_two ?_ ?_
      · skip
        refine OtS.os_do rfl (by rfl) (by rfl) (fun K hK => ?_)
        go_simp
        refine (HREC.out _).mono ?_
        rintro e w3 ⟨rfl, hb3⟩
        (try replace bO := bO.all hb3)
        replace hBe := hBe.trans (hb3.mono hBe.size)
        clear hb3
        refine hK.out _ _ ?_
        (try simp only [Act.put, List.setIfInBounds_toArray, List.set_cons_zero, List.set_cons_succ])
        clear hK K
        refine OtS.os_do rfl (by rfl) (by rfl) (fun K hK => ?_)
        go_simp
        obtain ⟨wa, g, hg, hwa, hBa, hsub, bO, hgB⟩ := be_alloc hBe 5 #[.int .u8 (48 + (r : Int))]
        rw [hwa, hg]
        clear hwa hg hBe hsub
        have hBe := hBa
        clear hBa
        refine hK.out _ _ ?_
        (try simp only [Act.put, List.setIfInBounds_toArray, List.set_cons_zero, List.set_cons_succ])
        clear hK K
        refine OtS.os_do rfl (by rfl) (by rfl) (fun K hK => ?_)
        have hcv := conv1 _ g (48 + (r : Int)) (48 + r) (by omega) (by omega) (bO.cell 0)
        go_simp
        clear hcv
        refine hK.out _ _ ?_
        (try simp only [Act.put, List.setIfInBounds_toArray, List.set_cons_zero, List.set_cons_succ])
        clear hK K
        refine OtS.os_do rfl (by rfl) (by rfl) (fun K hK => ?_)
        go_simp
        refine hK.out _ _ ?_
        (try simp only [Act.put, List.setIfInBounds_toArray, List.set_cons_zero, List.set_cons_succ])
        clear hK K
        refine OtS.os_do rfl (by rfl) (by rfl) (fun K hK => ?_)
        go_simp
        refine hK.out _ _ ?_
        (try simp only [Act.put, List.setIfInBounds_toArray, List.set_cons_zero, List.set_cons_succ])
        clear hK K
        refine OtS.os_nil ?_
        go_wp2_with fail
        go_ret
        exact ⟨by rw [HD.out]; simp, hBe⟩
      · skip
        refine OtS.os_do rfl (by rfl) (by rfl) (fun K hK => ?_)
        go_simp
        obtain ⟨wa, g, hg, hwa, hBa, hsub, bO, hgB⟩ := be_alloc hBe 5 #[.int .u8 (48 + (r : Int))]
        rw [hwa, hg]
        clear hwa hg hBe hsub
        have hBe := hBa
        clear hBa
        refine hK.out _ _ ?_
        (try simp only [Act.put, List.setIfInBounds_toArray, List.set_cons_zero, List.set_cons_succ])
        clear hK K
        refine OtS.os_two ?_ ?_
        · skip
          refine OtS.os_do rfl (by rfl) (by rfl) (fun K hK => ?_)
          go_simp
          refine (HREC.out _).mono ?_
          rintro e w3 ⟨rfl, hb3⟩
          (try replace bO := bO.all hb3)
          replace hBe := hBe.trans (hb3.mono hBe.size)
          clear hb3
          refine hK.out _ _ ?_
          (try simp only [Act.put, List.setIfInBounds_toArray, List.set_cons_zero, List.set_cons_succ])
          clear hK K
          refine OtS.os_do rfl (by rfl) (by rfl) (fun K hK => ?_)
          have hcv := conv1 _ g (48 + (r : Int)) (48 + r) (by omega) (by omega) (bO.cell 0)
          go_simp
          clear hcv
          refine hK.out _ _ ?_
          (try simp only [Act.put, List.setIfInBounds_toArray, List.set_cons_zero, List.set_cons_succ])
          clear hK K
          refine OtS.os_do rfl (by rfl) (by rfl) (fun K hK => ?_)
          go_simp
          refine hK.out _ _ ?_
          (try simp only [Act.put, List.setIfInBounds_toArray, List.set_cons_zero, List.set_cons_succ])
          clear hK K
          refine OtS.os_do rfl (by rfl) (by rfl) (fun K hK => ?_)
          go_simp
          refine hK.out _ _ ?_
          (try simp only [Act.put, List.setIfInBounds_toArray, List.set_cons_zero, List.set_cons_succ])
          clear hK K
          refine OtS.os_nil ?_
          go_wp2_with fail
          go_ret
          exact ⟨by rw [HD.out]; simp, hBe⟩
        · skip
          refine OtS.os_do rfl (by rfl) (by rfl) (fun K hK => ?_)
          have hcv := conv1 _ g (48 + (r : Int)) (48 + r) (by omega) (by omega) (bO.cell 0)
          go_simp
          clear hcv
          refine hK.out _ _ ?_
          (try simp only [Act.put, List.setIfInBounds_toArray, List.set_cons_zero, List.set_cons_succ])
          clear hK K
          refine OtS.os_do rfl (by rfl) (by rfl) (fun K hK => ?_)
          go_simp
          refine (HREC.out _).mono ?_
          rintro e w3 ⟨rfl, hb3⟩
          (try replace bO := bO.all hb3)
          replace hBe := hBe.trans (hb3.mono hBe.size)
          clear hb3
          refine hK.out _ _ ?_
          (try simp only [Act.put, List.setIfInBounds_toArray, List.set_cons_zero, List.set_cons_succ])
          clear hK K
          refine OtS.os_do rfl (by rfl) (by rfl) (fun K hK => ?_)
          go_simp
          refine hK.out _ _ ?_
          (try simp only [Act.put, List.setIfInBounds_toArray, List.set_cons_zero, List.set_cons_succ])
          clear hK K
          refine OtS.os_do rfl (by rfl) (by rfl) (fun K hK => ?_)
          go_simp
          refine hK.out _ _ ?_
          (try simp only [Act.put, List.setIfInBounds_toArray, List.set_cons_zero, List.set_cons_succ])
          clear hK K
          refine OtS.os_nil ?_
          go_wp2_with fail
          go_ret
          exact ⟨by rw [HD.out]; simp, hBe⟩
theorem join_snoc (xs : List (List UInt8)) (y sep : List UInt8) (h : xs ≠ []) : Lib.join (xs ++ [y]) sep = Lib.join xs sep ++ sep ++ y := by
  unfold Lib.join
  induction xs with
  | nil => exact absurd rfl h
  | cons x r ih =>
    cases r with
    | nil => simp [List.intercalate]
    | cons z r =>
      have := ih (by simp)
      simp only [List.intercalate, List.cons_append, List.intersperse_cons_cons, List.flatten_cons] at this ⊢
      rw [this]
      simp
/-- A text under construction. -/
def jb (xs : List Int) : ByteArray := ⟨(joinT xs).toArray⟩
theorem jb_size (xs : List Int) (h : ∀ x ∈ xs, i64ok x) : (jb xs).size ≤ 22 * xs.length := by
  have := joinT_len xs h
  unfold jb
  rw [Lib.size_eq]
  simpa using this
theorem jb_one (x : Int) : jb [x] = dec x := by
  unfold jb joinT dec
  rw [List.map_cons, List.map_nil, Lib.join_one]; rfl
theorem jb_snoc (xs : List Int) (x : Int) (h : xs ≠ []) : jb xs ++ ⟨#[32]⟩ ++ dec x = jb (xs ++ [x]) := by
  unfold jb joinT dec
  rw [List.map_append, List.map_cons, List.map_nil, join_snoc _ _ _ (by simpa using h)]
  apply ByteArray.ext
  simp [decL]
set_option maxHeartbeats 4000000 in
theorem l10List_any (w : World) (B : Nat) (A : Option Addr) (n c : Nat) (xs : List Int) (h : Sl w B A n c xs) (hr : ∀ x ∈ xs, i64ok x) (h0 : ∀ x ∈ xs, 0 ≤ x) (hB : B ≤ w.heap.size) (hn : n ≤ 1073741824) :
    Calls Tryz.prog 76 #[.slice A n c] w (Re w (.string (jb xs))) := by
  obtain rfl := h.len
  have HN := hide (show jb (xs.take 0) = ⟨#[]⟩ from rfl)
  go_enter Tryz.func76, Tryz.ntmps76
  go_wp2_with fail
  go_loopw [3, 4] (fun ts i wr => ∃ k : Nat, k ≤ xs.length ∧ i = .int .i64 k ∧ ts = .string (jb (xs.take k)) ∧ Below w.heap.size w wr) (fun _ i _ => xs.length - (intOf i).toNat)
  case atStart => exact ⟨0, by omega, rfl, by rw [HN.out], Below.refl _ _⟩
  case round =>
    obtain ⟨k, hk, rfl, rfl, hBe⟩ := hrel
    have hsz := hBe.size
    by_cases hlt : k < xs.length
    · obtain ⟨b, off, rfl, hb, hc⟩ := h.at_ (by omega)
      have c1 := (hBe.cell (p := ⟨b, off + k, none⟩) (Nat.lt_of_lt_of_le hb hB)).trans (hc k hlt)
      obtain ⟨x, hx⟩ : ∃ x, gi xs k = x := ⟨_, rfl⟩
      have hxr : i64ok x := by rw [← hx]; exact hr _ (gi_mem hlt)
      have hx0 : 0 ≤ x := by rw [← hx]; exact h0 _ (gi_mem hlt)
      have hg : xs[k]? = some x := by
        rw [← hx]; unfold gi; rw [List.getD_eq_getElem?_getD, List.getElem?_eq_getElem hlt]; rfl
      have htk : xs.take (k + 1) = xs.take k ++ [x] := by rw [List.take_add_one, hg]; rfl
      obtain ⟨y, rfl⟩ : ∃ y : Nat, x = y := ⟨x.toNat, by omega⟩
      rw [hx] at c1
      have hy := hxr.2
      have hsd := dec_size hxr
      have hsj : (jb (xs.take k)).size ≤ 22 * k := by
        have := jb_size (xs.take k) (fun x hx => hr x (List.mem_of_mem_take hx))
        rw [List.length_take] at this
        omega
      clear hc hx hg
      by_cases hk0 : k = 0
      · subst hk0
        have hnx := hide (show jb (xs.take (0 + 1)) = dec (y : Int) by rw [htk]; simp [jb_one])
        have e0 : jb (xs.take 0) = ⟨#[]⟩ := rfl
        rw [e0]
        rw [Nat.add_zero] at c1
        clear htk hsj
        have hcat : ¬ 9223372036854775807 < (dec (y : Int)).size := by omega
        go_wp2_with fail
        clear c1
        refine (l01Dec_any y (by omega) _).mono ?_
        rintro e w3 ⟨rfl, hb3⟩
        have hB3 := hBe.trans (hb3.mono hsz)
        go_wp2_with fail
        go_roundw
        case rel => exact ⟨1, by omega, by go_num, by rw [show (1 : Nat) = 0 + 1 from rfl, hnx.out]; (have e9 : (⟨#[]⟩ : ByteArray) ++ dec (y : Int) = dec (y : Int) := by apply ByteArray.ext; simp); rw [e9], hB3⟩
        case measure => simp [intOf] <;> omega
      · have hnx := hide (show jb (xs.take k) ++ ⟨#[32]⟩ ++ dec (y : Int) = jb (xs.take (k + 1)) by rw [htk]; exact jb_snoc _ _ (fun e => hk0 (by have h9 : (xs.take k).length = k := (by rw [List.length_take]; omega); rw [e] at h9; exact h9.symm)))
        clear htk
        obtain ⟨t0, ht0⟩ : ∃ t, jb (xs.take k) = t := ⟨_, rfl⟩
        rw [ht0] at hnx hsj ⊢
        have hkp : 0 < (k : Int) := by omega
        have hcat1 : ¬ 9223372036854775807 < t0.size + 1 := by omega
        have hcat2 : ¬ 9223372036854775807 < t0.size + 1 + (dec (y : Int)).size := by omega
        go_wp2_with fail
        clear c1
        refine (l01Dec_any y (by omega) _).mono ?_
        rintro e w3 ⟨rfl, hb3⟩
        have hB3 := hBe.trans (hb3.mono hsz)
        go_wp2_with fail
        go_roundw
        case rel => exact ⟨k + 1, by omega, by go_num, by rw [← hnx.out], hB3⟩
        case measure => simp [intOf] <;> omega
    · obtain rfl : k = xs.length := by omega
      have HX := hide (show jb (xs.take xs.length) = jb xs by rw [List.take_length])
      go_wp2_with fail
      go_ret
      exact ⟨by rw [← HX.out]; rfl, hBe⟩
/-- The text of a metric. -/
def metText (os : List Int) (D : Int) (vs : List Int) : ByteArray := jb os ++ ⟨#[59]⟩ ++ dec D ++ ⟨#[58]⟩ ++ jb vs
theorem joined_jb (w : World) (B : Nat) (A : Option Addr) (n c : Nat) (xs : List Int) (h : Sl w B A n c xs) (hr : ∀ x ∈ xs, i64ok x) (hB : B ≤ w.heap.size) (hn : n ≤ 1073741824) (hT : TbP w) :
    Calls Tryz.prog 74 #[.slice A n c, .string ⟨#[32]⟩] w (Re w (.string (jb xs))) := joined_any w B A n c xs h hr hB hn hT
set_option maxHeartbeats 4000000 in
theorem metricText_any (w : World) (A : Option Addr) (n c : Nat) (os : List Int) (D : Int) (A' : Option Addr) (n' c' : Nat) (vs : List Int) (h : Sl w w.heap.size A n c os) (h' : Sl w w.heap.size A' n' c' vs) (hr : ∀ x ∈ os, i64ok x) (hr' : ∀ x ∈ vs, i64ok x) (hD : i64ok D) (h0 : ∀ x ∈ os, 0 ≤ x) (h0' : ∀ x ∈ vs, 0 ≤ x) (hD0 : 0 ≤ D) (hn : n ≤ 1073741824) (hn' : n' ≤ 1073741824) (hT : TbP w) :
    Calls Tryz.prog 36 #[.agg #[.slice A n c, .int .i64 D, .slice A' n' c']] w (Re w (.string (metText os D vs))) := by
  have hj1 := jb_size os hr
  have hj2 := jb_size vs hr'
  have hj3 := dec_size hD
  have l1 := h.len
  have l2 := h'.len
  obtain ⟨y, rfl⟩ : ∃ y : Nat, D = y := ⟨D.toNat, by omega⟩
  have hy := hD.2
  go_enter Tryz.func36, Tryz.ntmps36
  go_wp2_with fail
  obtain ⟨W, hW⟩ : ∃ W, w.alloc (.cells #[.slice A n c, .int .i64 (y : Int), .slice A' n' c'] 26) = W := ⟨_, rfl⟩
  have hbW : Below w.heap.size w W := by rw [← hW]; exact (by repeat (first | assumption | exact Below.refl _ _ | apply below_drewN | apply Below.drew | apply Below.alloc | apply Below.setCell | omega | (focus (simp; done)) | (focus (simp; omega))))
  have hszW : w.heap.size < W.heap.size := by rw [← hW]; simp
  have q0 : W.cell? ⟨w.heap.size, 0, none⟩ = some (.slice A n c) := by rw [← hW]; exact (Blk.new _ _ _).cell 0
  have q1 : W.cell? ⟨w.heap.size, 1, none⟩ = some (.int .i64 (y : Int)) := by rw [← hW]; exact (Blk.new _ _ _).cell 1
  have q2 : W.cell? ⟨w.heap.size, 2, none⟩ = some (.slice A' n' c') := by rw [← hW]; exact (Blk.new _ _ _).cell 2
  rw [hW]
  clear hW
  have hE := hide (show jb os ++ ⟨#[59]⟩ ++ dec (y : Int) ++ ⟨#[58]⟩ ++ jb vs = metText os y vs from rfl)
  have g1 : ¬ 9223372036854775807 < (jb os).size + 1 := by omega
  have g2 : ¬ 9223372036854775807 < (jb os).size + 1 + (dec (y : Int)).size := by omega
  have g3 : ¬ 9223372036854775807 < (jb os).size + 1 + (dec (y : Int)).size + 1 := by omega
  have g4 : ¬ 9223372036854775807 < (jb os).size + 1 + (dec (y : Int)).size + 1 + (jb vs).size := by omega
  go_wp2_with fail
  refine wp_region_be [0, 1, 4, 5, 9, 10, 2, 3, 6, 7, 8, 11, 12, 13] 13 W.heap.size W (by kernel_rfl) (by kernel_rfl) (by kernel_rfl) (fun _ _ _ _ _ h => h) (Below.refl _ _) (fun wd hBe => ?_)
  repeat (first | (apply ord_tk rfl (by rfl) (by rfl) (by rfl); (focus (intro wx hSw; have r0 := (hSw.cell (p := ⟨w.heap.size, 0, none⟩) hszW).trans q0; have r1 := (hSw.cell (p := ⟨w.heap.size, 1, none⟩) hszW).trans q1; have r2 := (hSw.cell (p := ⟨w.heap.size, 2, none⟩) hszW).trans q2; go_simp; (try with_reducible rfl))); (try simp only [Act.put, List.setIfInBounds_toArray, List.set_cons_zero, List.set_cons_succ])) | (apply ord_skip rfl (by rfl) (by rfl) (fun _ => hBe); (try simp only [Act.put, List.setIfInBounds_toArray, List.set_cons_zero, List.set_cons_succ])))
  refine ord_do rfl (by rfl) (by rfl) (fun K hK => ?_)
  go_simp
  refine (joined_jb _ _ _ _ _ _ (h.below (hbW.trans (hBe.mono (Nat.le_of_lt hszW)))) hr (hbW.trans (hBe.mono (Nat.le_of_lt hszW))).size hn (hT.bel (hbW.trans (hBe.mono (Nat.le_of_lt hszW))))).mono ?_
  rintro e wd' ⟨rfl, hwd⟩
  replace hBe := hBe.trans (hwd.mono hBe.size)
  clear hwd
  refine hK.out _ _ (fun _ => hBe) ?_
  (try simp only [Act.put, List.setIfInBounds_toArray, List.set_cons_zero, List.set_cons_succ])
  clear hK K
  repeat (first | (apply ord_tk rfl (by rfl) (by rfl) (by rfl); (focus (intro wx hSw; have r0 := (hSw.cell (p := ⟨w.heap.size, 0, none⟩) hszW).trans q0; have r1 := (hSw.cell (p := ⟨w.heap.size, 1, none⟩) hszW).trans q1; have r2 := (hSw.cell (p := ⟨w.heap.size, 2, none⟩) hszW).trans q2; go_simp; (try with_reducible rfl))); (try simp only [Act.put, List.setIfInBounds_toArray, List.set_cons_zero, List.set_cons_succ])) | (apply ord_skip rfl (by rfl) (by rfl) (fun _ => hBe); (try simp only [Act.put, List.setIfInBounds_toArray, List.set_cons_zero, List.set_cons_succ])))
  refine ord_do rfl (by rfl) (by rfl) (fun K hK => ?_)
  go_simp
  refine (decimal_any _ _ hD (hT.bel (hbW.trans (hBe.mono (Nat.le_of_lt hszW))))).mono ?_
  rintro e wd' ⟨rfl, hwd⟩
  replace hBe := hBe.trans (hwd.mono hBe.size)
  clear hwd
  refine hK.out _ _ (fun _ => hBe) ?_
  (try simp only [Act.put, List.setIfInBounds_toArray, List.set_cons_zero, List.set_cons_succ])
  clear hK K
  repeat (first | (apply ord_tk rfl (by rfl) (by rfl) (by rfl); (focus (intro wx hSw; have r0 := (hSw.cell (p := ⟨w.heap.size, 0, none⟩) hszW).trans q0; have r1 := (hSw.cell (p := ⟨w.heap.size, 1, none⟩) hszW).trans q1; have r2 := (hSw.cell (p := ⟨w.heap.size, 2, none⟩) hszW).trans q2; go_simp; (try with_reducible rfl))); (try simp only [Act.put, List.setIfInBounds_toArray, List.set_cons_zero, List.set_cons_succ])) | (apply ord_skip rfl (by rfl) (by rfl) (fun _ => hBe); (try simp only [Act.put, List.setIfInBounds_toArray, List.set_cons_zero, List.set_cons_succ])))
  refine ord_do rfl (by rfl) (by rfl) (fun K hK => ?_)
  go_simp
  refine (joined_jb _ _ _ _ _ _ (h'.below (hbW.trans (hBe.mono (Nat.le_of_lt hszW)))) hr' (hbW.trans (hBe.mono (Nat.le_of_lt hszW))).size hn' (hT.bel (hbW.trans (hBe.mono (Nat.le_of_lt hszW))))).mono ?_
  rintro e wd' ⟨rfl, hwd⟩
  replace hBe := hBe.trans (hwd.mono hBe.size)
  clear hwd
  refine hK.out _ _ (fun _ => hBe) ?_
  (try simp only [Act.put, List.setIfInBounds_toArray, List.set_cons_zero, List.set_cons_succ])
  clear hK K
  repeat (first | (apply ord_tk rfl (by rfl) (by rfl) (by rfl); (focus (intro wx hSw; have r0 := (hSw.cell (p := ⟨w.heap.size, 0, none⟩) hszW).trans q0; have r1 := (hSw.cell (p := ⟨w.heap.size, 1, none⟩) hszW).trans q1; have r2 := (hSw.cell (p := ⟨w.heap.size, 2, none⟩) hszW).trans q2; go_simp; (try with_reducible rfl))); (try simp only [Act.put, List.setIfInBounds_toArray, List.set_cons_zero, List.set_cons_succ])) | (apply ord_skip rfl (by rfl) (by rfl) (fun _ => hBe); (try simp only [Act.put, List.setIfInBounds_toArray, List.set_cons_zero, List.set_cons_succ])))
  refine ord_do rfl (by rfl) (by rfl) (fun K hK => ?_)
  go_simp
  refine hK.out _ _ (fun h => absurd h (by omega)) ?_
  (try simp only [Act.put, List.setIfInBounds_toArray, List.set_cons_zero, List.set_cons_succ])
  clear hK K
  refine ord_nil ?_
  go_wp2_with fail
  go_ret
  exact ⟨by rw [← hE.out]; rfl, hbW.trans (hBe.mono (Nat.le_of_lt hszW))⟩
set_option maxHeartbeats 4000000 in
theorem l10Text_any (w : World) (A : Option Addr) (n c : Nat) (os : List Int) (D : Int) (A' : Option Addr) (n' c' : Nat) (vs : List Int) (h : Sl w w.heap.size A n c os) (h' : Sl w w.heap.size A' n' c' vs) (hr : ∀ x ∈ os, i64ok x) (hr' : ∀ x ∈ vs, i64ok x) (hD : i64ok D) (h0 : ∀ x ∈ os, 0 ≤ x) (h0' : ∀ x ∈ vs, 0 ≤ x) (hD0 : 0 ≤ D) (hn : n ≤ 1073741824) (hn' : n' ≤ 1073741824)  :
    Calls Tryz.prog 37 #[.agg #[.slice A n c, .int .i64 D, .slice A' n' c']] w (Re w (.string (metText os D vs))) := by
  have hj1 := jb_size os hr
  have hj2 := jb_size vs hr'
  have hj3 := dec_size hD
  have l1 := h.len
  have l2 := h'.len
  obtain ⟨y, rfl⟩ : ∃ y : Nat, D = y := ⟨D.toNat, by omega⟩
  have hy := hD.2
  go_enter Tryz.func37, Tryz.ntmps37
  go_wp2_with fail
  obtain ⟨W, hW⟩ : ∃ W, w.alloc (.cells #[.slice A n c, .int .i64 (y : Int), .slice A' n' c'] 26) = W := ⟨_, rfl⟩
  have hbW : Below w.heap.size w W := by rw [← hW]; exact (by repeat (first | assumption | exact Below.refl _ _ | apply below_drewN | apply Below.drew | apply Below.alloc | apply Below.setCell | omega | (focus (simp; done)) | (focus (simp; omega))))
  have hszW : w.heap.size < W.heap.size := by rw [← hW]; simp
  have q0 : W.cell? ⟨w.heap.size, 0, none⟩ = some (.slice A n c) := by rw [← hW]; exact (Blk.new _ _ _).cell 0
  have q1 : W.cell? ⟨w.heap.size, 1, none⟩ = some (.int .i64 (y : Int)) := by rw [← hW]; exact (Blk.new _ _ _).cell 1
  have q2 : W.cell? ⟨w.heap.size, 2, none⟩ = some (.slice A' n' c') := by rw [← hW]; exact (Blk.new _ _ _).cell 2
  rw [hW]
  clear hW
  have hE := hide (show jb os ++ ⟨#[59]⟩ ++ dec (y : Int) ++ ⟨#[58]⟩ ++ jb vs = metText os y vs from rfl)
  have g1 : ¬ 9223372036854775807 < (jb os).size + 1 := by omega
  have g2 : ¬ 9223372036854775807 < (jb os).size + 1 + (dec (y : Int)).size := by omega
  have g3 : ¬ 9223372036854775807 < (jb os).size + 1 + (dec (y : Int)).size + 1 := by omega
  have g4 : ¬ 9223372036854775807 < (jb os).size + 1 + (dec (y : Int)).size + 1 + (jb vs).size := by omega
  go_wp2_with fail
  refine wp_region_be [0, 1, 4, 5, 9, 10, 2, 3, 6, 7, 8, 11, 12, 13] 13 W.heap.size W (by kernel_rfl) (by kernel_rfl) (by kernel_rfl) (fun _ _ _ _ _ h => h) (Below.refl _ _) (fun wd hBe => ?_)
  repeat (first | (apply ord_tk rfl (by rfl) (by rfl) (by rfl); (focus (intro wx hSw; have r0 := (hSw.cell (p := ⟨w.heap.size, 0, none⟩) hszW).trans q0; have r1 := (hSw.cell (p := ⟨w.heap.size, 1, none⟩) hszW).trans q1; have r2 := (hSw.cell (p := ⟨w.heap.size, 2, none⟩) hszW).trans q2; go_simp; (try with_reducible rfl))); (try simp only [Act.put, List.setIfInBounds_toArray, List.set_cons_zero, List.set_cons_succ])) | (apply ord_skip rfl (by rfl) (by rfl) (fun _ => hBe); (try simp only [Act.put, List.setIfInBounds_toArray, List.set_cons_zero, List.set_cons_succ])))
  refine ord_do rfl (by rfl) (by rfl) (fun K hK => ?_)
  go_simp
  refine (l10List_any _ _ _ _ _ _ (h.below (hbW.trans (hBe.mono (Nat.le_of_lt hszW)))) hr h0 (hbW.trans (hBe.mono (Nat.le_of_lt hszW))).size hn).mono ?_
  rintro e wd' ⟨rfl, hwd⟩
  replace hBe := hBe.trans (hwd.mono hBe.size)
  clear hwd
  refine hK.out _ _ (fun _ => hBe) ?_
  (try simp only [Act.put, List.setIfInBounds_toArray, List.set_cons_zero, List.set_cons_succ])
  clear hK K
  repeat (first | (apply ord_tk rfl (by rfl) (by rfl) (by rfl); (focus (intro wx hSw; have r0 := (hSw.cell (p := ⟨w.heap.size, 0, none⟩) hszW).trans q0; have r1 := (hSw.cell (p := ⟨w.heap.size, 1, none⟩) hszW).trans q1; have r2 := (hSw.cell (p := ⟨w.heap.size, 2, none⟩) hszW).trans q2; go_simp; (try with_reducible rfl))); (try simp only [Act.put, List.setIfInBounds_toArray, List.set_cons_zero, List.set_cons_succ])) | (apply ord_skip rfl (by rfl) (by rfl) (fun _ => hBe); (try simp only [Act.put, List.setIfInBounds_toArray, List.set_cons_zero, List.set_cons_succ])))
  refine ord_do rfl (by rfl) (by rfl) (fun K hK => ?_)
  go_simp
  refine (l01Dec_any y (by omega) _).mono ?_
  rintro e wd' ⟨rfl, hwd⟩
  replace hBe := hBe.trans (hwd.mono hBe.size)
  clear hwd
  refine hK.out _ _ (fun _ => hBe) ?_
  (try simp only [Act.put, List.setIfInBounds_toArray, List.set_cons_zero, List.set_cons_succ])
  clear hK K
  repeat (first | (apply ord_tk rfl (by rfl) (by rfl) (by rfl); (focus (intro wx hSw; have r0 := (hSw.cell (p := ⟨w.heap.size, 0, none⟩) hszW).trans q0; have r1 := (hSw.cell (p := ⟨w.heap.size, 1, none⟩) hszW).trans q1; have r2 := (hSw.cell (p := ⟨w.heap.size, 2, none⟩) hszW).trans q2; go_simp; (try with_reducible rfl))); (try simp only [Act.put, List.setIfInBounds_toArray, List.set_cons_zero, List.set_cons_succ])) | (apply ord_skip rfl (by rfl) (by rfl) (fun _ => hBe); (try simp only [Act.put, List.setIfInBounds_toArray, List.set_cons_zero, List.set_cons_succ])))
  refine ord_do rfl (by rfl) (by rfl) (fun K hK => ?_)
  go_simp
  refine (l10List_any _ _ _ _ _ _ (h'.below (hbW.trans (hBe.mono (Nat.le_of_lt hszW)))) hr' h0' (hbW.trans (hBe.mono (Nat.le_of_lt hszW))).size hn').mono ?_
  rintro e wd' ⟨rfl, hwd⟩
  replace hBe := hBe.trans (hwd.mono hBe.size)
  clear hwd
  refine hK.out _ _ (fun _ => hBe) ?_
  (try simp only [Act.put, List.setIfInBounds_toArray, List.set_cons_zero, List.set_cons_succ])
  clear hK K
  repeat (first | (apply ord_tk rfl (by rfl) (by rfl) (by rfl); (focus (intro wx hSw; have r0 := (hSw.cell (p := ⟨w.heap.size, 0, none⟩) hszW).trans q0; have r1 := (hSw.cell (p := ⟨w.heap.size, 1, none⟩) hszW).trans q1; have r2 := (hSw.cell (p := ⟨w.heap.size, 2, none⟩) hszW).trans q2; go_simp; (try with_reducible rfl))); (try simp only [Act.put, List.setIfInBounds_toArray, List.set_cons_zero, List.set_cons_succ])) | (apply ord_skip rfl (by rfl) (by rfl) (fun _ => hBe); (try simp only [Act.put, List.setIfInBounds_toArray, List.set_cons_zero, List.set_cons_succ])))
  refine ord_do rfl (by rfl) (by rfl) (fun K hK => ?_)
  go_simp
  refine hK.out _ _ (fun h => absurd h (by omega)) ?_
  (try simp only [Act.put, List.setIfInBounds_toArray, List.set_cons_zero, List.set_cons_succ])
  clear hK K
  refine ord_nil ?_
  go_wp2_with fail
  go_ret
  exact ⟨by rw [← hE.out]; rfl, hbW.trans (hBe.mono (Nat.le_of_lt hszW))⟩
/-- What both return. -/
noncomputable def mtT (os : List Int) (D : Int) (vs : List Int) : ByteArray := if isM os D vs = true then metText os D vs else ⟨#[]⟩
set_option maxHeartbeats 2000000 in
theorem spec_MT_any (w : World) (A : Option Addr) (n c : Nat) (os : List Int) (D : Int) (A' : Option Addr) (n' c' : Nat) (vs : List Int) (h : Sl w w.heap.size A n c os) (h' : Sl w w.heap.size A' n' c' vs) (hn : n ≤ 1073741824) (hn' : n' ≤ 1073741824) :
    Calls Tryz.prog 17 #[.agg #[.slice A n c, .int .i64 D, .slice A' n' c']] w (Re w (.tuple #[.string (mtT os D vs), .int .i64 (codeM os D vs)])) := by
  cases hm : isM os D vs with
  | false =>
    have hC := hide (show codeM os D vs = 1 by unfold codeM; rw [hm]; rfl)
    have hR := hide (show mtT os D vs = ⟨#[]⟩ by unfold mtT; rw [hm]; rfl)
    go_enter Tryz.func17, Tryz.ntmps17
    go_wp2_with fail
    obtain ⟨W, hW⟩ : ∃ W, w.alloc (.cells #[.slice A n c, .int .i64 D, .slice A' n' c'] 26) = W := ⟨_, rfl⟩
    have hbW : Below w.heap.size w W := by rw [← hW]; exact (by repeat (first | assumption | exact Below.refl _ _ | apply below_drewN | apply Below.drew | apply Below.alloc | apply Below.setCell | omega | (focus (simp; done)) | (focus (simp; omega))))
    have hszW : w.heap.size < W.heap.size := by rw [← hW]; simp
    have q0 : W.cell? ⟨w.heap.size, 0, none⟩ = some (.slice A n c) := by rw [← hW]; exact (Blk.new _ _ _).cell 0
    have q1 : W.cell? ⟨w.heap.size, 1, none⟩ = some (.int .i64 D) := by rw [← hW]; exact (Blk.new _ _ _).cell 1
    have q2 : W.cell? ⟨w.heap.size, 2, none⟩ = some (.slice A' n' c') := by rw [← hW]; exact (Blk.new _ _ _).cell 2
    rw [hW]
    clear hW
    have hs := (h.below hbW).more (Nat.le_of_lt hszW)
    have hs' := (h'.below hbW).more (Nat.le_of_lt hszW)
    go_wp2_with fail
    refine (l10Is_v false _ _ _ _ _ _ _ _ _ _ hs hs' hn hn' hm).mono ?_
    rintro e w2 ⟨rfl, hb2⟩
    go_wp2_with fail
    refine bodyPost_ret (v := .tuple #[.string ⟨#[]⟩, .int .i64 1]) (by simp [results, Tryz.results17, go_sem]) rfl ?_
    exact ⟨by rw [hC.out, hR.out], hbW.trans (hb2.mono (Nat.le_of_lt hszW))⟩
  | true =>
    have hM := isM_iff.1 hm
    have hC := hide (show codeM os D vs = 0 by unfold codeM; rw [hm]; rfl)
    have hR := hide (show mtT os D vs = metText os D vs by unfold mtT; rw [hm]; rfl)
    have hok := hM.ok
    have d1 := hok.d1
    have d2 := hok.d2
    have hD : i64ok D := ⟨by omega, by omega⟩
    have o1 : ∀ x ∈ os, i64ok x := fun x hx => by have := hok.g.m2 x hx; have := hok.g.m16 x hx; exact ⟨by omega, by omega⟩
    have o2 : ∀ x ∈ os, 0 ≤ x := fun x hx => by have := hok.g.m2 x hx; omega
    have v1 : ∀ x ∈ vs, i64ok x := fun x hx => by have := hok.rng x hx; exact ⟨by omega, by omega⟩
    have v2 : ∀ x ∈ vs, 0 ≤ x := fun x hx => (hok.rng x hx).1
    go_enter Tryz.func17, Tryz.ntmps17
    go_wp2_with fail
    obtain ⟨W, hW⟩ : ∃ W, w.alloc (.cells #[.slice A n c, .int .i64 D, .slice A' n' c'] 26) = W := ⟨_, rfl⟩
    have hbW : Below w.heap.size w W := by rw [← hW]; exact (by repeat (first | assumption | exact Below.refl _ _ | apply below_drewN | apply Below.drew | apply Below.alloc | apply Below.setCell | omega | (focus (simp; done)) | (focus (simp; omega))))
    have hszW : w.heap.size < W.heap.size := by rw [← hW]; simp
    have q0 : W.cell? ⟨w.heap.size, 0, none⟩ = some (.slice A n c) := by rw [← hW]; exact (Blk.new _ _ _).cell 0
    have q1 : W.cell? ⟨w.heap.size, 1, none⟩ = some (.int .i64 D) := by rw [← hW]; exact (Blk.new _ _ _).cell 1
    have q2 : W.cell? ⟨w.heap.size, 2, none⟩ = some (.slice A' n' c') := by rw [← hW]; exact (Blk.new _ _ _).cell 2
    rw [hW]
    clear hW
    have hs := (h.below hbW).more (Nat.le_of_lt hszW)
    have hs' := (h'.below hbW).more (Nat.le_of_lt hszW)
    go_wp2_with fail
    refine (l10Is_v true _ _ _ _ _ _ _ _ _ _ hs hs' hn hn' hm).mono ?_
    rintro e w2 ⟨rfl, hb2⟩
    have r0 := (hb2.cell (p := ⟨w.heap.size, 0, none⟩) hszW).trans q0
    have r1 := (hb2.cell (p := ⟨w.heap.size, 1, none⟩) hszW).trans q1
    have r2 := (hb2.cell (p := ⟨w.heap.size, 2, none⟩) hszW).trans q2
    have hbx := hbW.trans (hb2.mono (Nat.le_of_lt hszW))
    go_wp2_with fail
    refine (l10Text_any _ _ _ _ _ _ _ _ _ _ ((h.below hbx).more hbx.size) ((h'.below hbx).more hbx.size) o1 v1 hD o2 v2 (by omega) hn hn').mono ?_
    rintro e w3 ⟨rfl, hb3⟩
    go_wp2_with fail
    refine bodyPost_ret (v := .tuple #[.string (metText os D vs), .int .i64 0]) (by simp [results, Tryz.results17, go_sem]) rfl ?_
    exact ⟨by rw [hC.out, hR.out], hbx.trans (hb3.mono hbx.size)⟩
set_option maxHeartbeats 2000000 in
theorem impl_MT_any (w : World) (A : Option Addr) (n c : Nat) (os : List Int) (D : Int) (A' : Option Addr) (n' c' : Nat) (vs : List Int) (h : Sl w w.heap.size A n c os) (h' : Sl w w.heap.size A' n' c' vs) (hn : n ≤ 1073741824) (hn' : n' ≤ 1073741824) (hT : TbP w) :
    Calls Tryz.prog 16 #[.agg #[.slice A n c, .int .i64 D, .slice A' n' c']] w (Re w (.tuple #[.string (mtT os D vs), .int .i64 (codeM os D vs)])) := by
  cases hm : isM os D vs with
  | false =>
    have hC := hide (show codeM os D vs = 1 by unfold codeM; rw [hm]; rfl)
    have hR := hide (show mtT os D vs = ⟨#[]⟩ by unfold mtT; rw [hm]; rfl)
    go_enter Tryz.func16, Tryz.ntmps16
    go_wp2_with fail
    obtain ⟨W, hW⟩ : ∃ W, w.alloc (.cells #[.slice A n c, .int .i64 D, .slice A' n' c'] 26) = W := ⟨_, rfl⟩
    have hbW : Below w.heap.size w W := by rw [← hW]; exact (by repeat (first | assumption | exact Below.refl _ _ | apply below_drewN | apply Below.drew | apply Below.alloc | apply Below.setCell | omega | (focus (simp; done)) | (focus (simp; omega))))
    have hszW : w.heap.size < W.heap.size := by rw [← hW]; simp
    have q0 : W.cell? ⟨w.heap.size, 0, none⟩ = some (.slice A n c) := by rw [← hW]; exact (Blk.new _ _ _).cell 0
    have q1 : W.cell? ⟨w.heap.size, 1, none⟩ = some (.int .i64 D) := by rw [← hW]; exact (Blk.new _ _ _).cell 1
    have q2 : W.cell? ⟨w.heap.size, 2, none⟩ = some (.slice A' n' c') := by rw [← hW]; exact (Blk.new _ _ _).cell 2
    rw [hW]
    clear hW
    have hs := (h.below hbW).more (Nat.le_of_lt hszW)
    have hs' := (h'.below hbW).more (Nat.le_of_lt hszW)
    go_wp2_with fail
    refine (implIs_v false _ _ _ _ _ _ _ _ _ _ hs hs' hn hn' hm).mono ?_
    rintro e w2 ⟨rfl, hb2⟩
    go_wp2_with fail
    refine bodyPost_ret (v := .tuple #[.string ⟨#[]⟩, .int .i64 1]) (by simp [results, Tryz.results16, go_sem]) rfl ?_
    exact ⟨by rw [hC.out, hR.out], hbW.trans (hb2.mono (Nat.le_of_lt hszW))⟩
  | true =>
    have hM := isM_iff.1 hm
    have hC := hide (show codeM os D vs = 0 by unfold codeM; rw [hm]; rfl)
    have hR := hide (show mtT os D vs = metText os D vs by unfold mtT; rw [hm]; rfl)
    have hok := hM.ok
    have d1 := hok.d1
    have d2 := hok.d2
    have hD : i64ok D := ⟨by omega, by omega⟩
    have o1 : ∀ x ∈ os, i64ok x := fun x hx => by have := hok.g.m2 x hx; have := hok.g.m16 x hx; exact ⟨by omega, by omega⟩
    have o2 : ∀ x ∈ os, 0 ≤ x := fun x hx => by have := hok.g.m2 x hx; omega
    have v1 : ∀ x ∈ vs, i64ok x := fun x hx => by have := hok.rng x hx; exact ⟨by omega, by omega⟩
    have v2 : ∀ x ∈ vs, 0 ≤ x := fun x hx => (hok.rng x hx).1
    go_enter Tryz.func16, Tryz.ntmps16
    go_wp2_with fail
    obtain ⟨W, hW⟩ : ∃ W, w.alloc (.cells #[.slice A n c, .int .i64 D, .slice A' n' c'] 26) = W := ⟨_, rfl⟩
    have hbW : Below w.heap.size w W := by rw [← hW]; exact (by repeat (first | assumption | exact Below.refl _ _ | apply below_drewN | apply Below.drew | apply Below.alloc | apply Below.setCell | omega | (focus (simp; done)) | (focus (simp; omega))))
    have hszW : w.heap.size < W.heap.size := by rw [← hW]; simp
    have q0 : W.cell? ⟨w.heap.size, 0, none⟩ = some (.slice A n c) := by rw [← hW]; exact (Blk.new _ _ _).cell 0
    have q1 : W.cell? ⟨w.heap.size, 1, none⟩ = some (.int .i64 D) := by rw [← hW]; exact (Blk.new _ _ _).cell 1
    have q2 : W.cell? ⟨w.heap.size, 2, none⟩ = some (.slice A' n' c') := by rw [← hW]; exact (Blk.new _ _ _).cell 2
    rw [hW]
    clear hW
    have hs := (h.below hbW).more (Nat.le_of_lt hszW)
    have hs' := (h'.below hbW).more (Nat.le_of_lt hszW)
    go_wp2_with fail
    refine (implIs_v true _ _ _ _ _ _ _ _ _ _ hs hs' hn hn' hm).mono ?_
    rintro e w2 ⟨rfl, hb2⟩
    have r0 := (hb2.cell (p := ⟨w.heap.size, 0, none⟩) hszW).trans q0
    have r1 := (hb2.cell (p := ⟨w.heap.size, 1, none⟩) hszW).trans q1
    have r2 := (hb2.cell (p := ⟨w.heap.size, 2, none⟩) hszW).trans q2
    have hbx := hbW.trans (hb2.mono (Nat.le_of_lt hszW))
    go_wp2_with fail
    refine (metricText_any _ _ _ _ _ _ _ _ _ _ ((h.below hbx).more hbx.size) ((h'.below hbx).more hbx.size) o1 v1 hD o2 v2 (by omega) hn hn' (hT.bel hbx)).mono ?_
    rintro e w3 ⟨rfl, hb3⟩
    go_wp2_with fail
    refine bodyPost_ret (v := .tuple #[.string (metText os D vs), .int .i64 0]) (by simp [results, Tryz.results16, go_sem]) rfl ?_
    exact ⟨by rw [hC.out, hR.out], hbx.trans (hb3.mono hbx.size)⟩
end Go.Proofs.YtonehmjoolflfaaGreatDoor
