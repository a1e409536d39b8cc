
/- Texts of metrics, split: plain. ParseMetric's parts: readDecimal, readIntegers (seat with strconv.ParseInt). readIntegers. The reference's l01Split, l01Value. The reference's l01Value, main road (a draft: does not build yet). -/
import Derived.Test.YtonehmjoolflfaaGreatDoorMTa
import Derived.Lib.SplitLaws
import Derived.Lib.CountLaws
import Derived.Lib.IndexBytes
import Derived.Lib.ParseIntB
import Derived.Shelf.Strconv.ErrVarParseInt
import Derived.Shelf.Strings.Cut
import Derived.Shelf.Strings.Split
namespace Go.Proofs.YtonehmjoolflfaaGreatDoor
open Go Go.RowKit Go.Shelf
set_option linter.unusedSimpArgs false
set_option linter.unusedVariables false
set_option maxRecDepth 100000
theorem index_word (b : UInt8) (rest : List UInt8) : ∀ w : List UInt8, b ∉ w → Lib.index (w ++ b :: rest) [b] = w.length := by
  intro w
  rw [Lib.index_one]
  induction w with
  | nil => intro _; simp [Lib.indexByte]
  | cons x r ih =>
    intro h
    have hx : x ≠ b := fun e => h (by simp [e])
    have := ih (fun e => h (by simp [e]))
    simp [Lib.indexByte, hx, this]
    try omega
theorem index_no (b : UInt8) : ∀ w : List UInt8, b ∉ w → Lib.index w [b] = -1 := by
  intro w
  rw [Lib.index_one]
  induction w with
  | nil => intro _; rfl
  | cons x r ih =>
    intro h
    have hx : x ≠ b := fun e => h (by simp [e])
    have := ih (fun e => h (by simp [e]))
    simp [Lib.indexByte, hx, this]
theorem cut_word (b : UInt8) (w rest : List UInt8) (h : b ∉ w) : Lib.cut (w ++ b :: rest) [b] = (w, rest, true) := by
  unfold Lib.cut
  rw [index_word b rest w h, if_pos (by omega)]
  simp
theorem split_join (b : UInt8) : ∀ ws : List (List UInt8), ws ≠ [] → (∀ w ∈ ws, b ∉ w) → Lib.split (Lib.join ws [b]) [b] = ws := by
  intro ws
  induction ws with
  | nil => intro h; exact absurd rfl h
  | cons w r ih =>
    intro _ h
    have hw := h w (by simp)
    cases r with
    | nil =>
      rw [Lib.join_one]
      unfold Lib.split
      rw [Lib.count_miss (index_no b w hw)]
      rfl
    | cons z r =>
      have hi := ih (by simp) fun x hx => h x (by simp [hx])
      have hj : Lib.join (w :: z :: r) [b] = w ++ b :: Lib.join (z :: r) [b] := by simp [Lib.join, List.intercalate]
      have hx := index_word b (Lib.join (z :: r) [b]) w hw
      unfold Lib.split at hi ⊢
      rw [hj, Lib.count_hit (by simp) hx, Nat.add_comm 1, Lib.splitK, hx]
      have hd : (w ++ b :: Lib.join (z :: r) [b]).drop (w.length + [b].length) = Lib.join (z :: r) [b] := by simp
      rw [if_neg (by simp)]
      simp only [Int.toNat_natCast, hd, hi, Nat.add_zero]
      simp
/-! ### digits -/
def isDg (x : UInt8) : Bool := decide (48 ≤ x.toNat ∧ x.toNat ≤ 57)
theorem dig_toNat {r : Nat} (h : r < 10) : (UInt8.ofNat (48 + r)).toNat = 48 + r := by
  rw [UInt8.toNat_ofNat']; omega
theorem decDigits_dg (n : Nat) : ∀ x ∈ Lib.decDigits n, isDg x = true := by
  induction n using Nat.strongRecOn with
  | ind n ih =>
    intro x hx
    rw [Lib.decDigits] at hx
    split at hx
    · rename_i h
      rw [List.mem_singleton.1 hx]
      unfold isDg
      rw [dig_toNat h, decide_eq_true_eq]
      omega
    · rename_i h
      rcases List.mem_append.1 hx with hx | hx
      · exact ih (n / 10) (by omega) x hx
      · rw [List.mem_singleton.1 hx]
        unfold isDg
        rw [dig_toNat (by omega), decide_eq_true_eq]
        omega
theorem decDigits_ne (n : Nat) : Lib.decDigits n ≠ [] := by
  rw [Lib.decDigits]; split <;> simp
theorem decDigits_last {n : Nat} (h : ¬ n < 10) : Lib.decDigits n = Lib.decDigits (n / 10) ++ [UInt8.ofNat (48 + n % 10)] := by
  conv => lhs; rw [Lib.decDigits]
  rw [dif_neg h]
/-- What digits spell. -/
def valD (acc : Nat) (l : List UInt8) : Nat := l.foldl (fun a c => a * 10 + (c.toNat - 48)) acc
theorem valD_ge (l : List UInt8) : ∀ acc, acc ≤ valD acc l := by
  induction l with
  | nil => intro acc; exact Nat.le_refl _
  | cons c r ih =>
    intro acc
    have := ih (acc * 10 + (c.toNat - 48))
    unfold valD at this ⊢
    rw [List.foldl_cons]
    omega
theorem valD_dec (n : Nat) : valD 0 (Lib.decDigits n) = n := by
  induction n using Nat.strongRecOn with
  | ind n ih =>
    by_cases h : n < 10
    · rw [Lib.decDigits_one h]
      unfold valD
      simp only [List.foldl_cons, List.foldl_nil, dig_toNat h]
      omega
    · rw [decDigits_last h]
      have := ih (n / 10) (by omega)
      unfold valD at this ⊢
      rw [List.foldl_append, this]
      simp only [List.foldl_cons, List.foldl_nil, dig_toNat (show n % 10 < 10 by omega)]
      omega
theorem parse_dg (l : List UInt8) : ∀ acc, (∀ x ∈ l, isDg x = true) → valD acc l < 1000000000 → Lib.parseUintM (2 ^ 64 - 1) acc l = .ok (valD acc l) := by
  induction l with
  | nil => intro acc _ _; rfl
  | cons c r ih =>
    intro acc hd hv
    have hc := hd c (by simp)
    unfold isDg at hc
    rw [decide_eq_true_eq] at hc
    have hv' : valD (acc * 10 + (c.toNat - 48)) r < 1000000000 := hv
    have hg := valD_ge r (acc * 10 + (c.toNat - 48))
    rw [Lib.parseUintM, if_pos hc, if_neg (by omega), if_neg (by omega), ih _ (fun x hx => hd x (by simp [hx])) hv']
    rfl
theorem parse_dec {n : Nat} (h : n < 1000000000) : Lib.parseIntB 64 (Lib.decDigits n) = .ok (n : Int) := by
  have hd := decDigits_dg n
  have hp := parse_dg (Lib.decDigits n) 0 hd (by rw [valD_dec]; exact h)
  rw [valD_dec] at hp
  have hne := decDigits_ne n
  cases hl : Lib.decDigits n with
  | nil => exact absurd hl hne
  | cons c r =>
    rw [hl] at hp hd
    have hc := hd c (by simp)
    unfold isDg at hc
    rw [decide_eq_true_eq] at hc
    have h1 : ¬ (c.toNat = 43 ∨ c.toNat = 45) := by omega
    have h2 : ¬ c.toNat = 45 := by omega
    unfold Lib.parseIntB Lib.parseUintB
    have h3 : ¬ c.toNat = 43 := by omega
    simp only [h2, h3, or_self, if_false, hp, reduceCtorEq, not_false_eq_true, true_and, false_and]
    rw [if_neg (show ¬ 2 ^ (64 - 1) ≤ n by omega)]
/-- No byte of a number's text is a blank, a semicolon or a colon. -/
theorem dec_no {n : Nat} {b : UInt8} (hb : b = 32 ∨ b = 58 ∨ b = 59) : b ∉ decL (n : Int) := by
  unfold decL
  rw [Lib.itoa_nonneg]
  intro hx
  have := decDigits_dg n b hx
  unfold isDg at this
  rw [decide_eq_true_eq] at this
  rcases hb with rfl | rfl | rfl
  · have e : (32 : UInt8).toNat = 32 := rfl
    omega
  · have e : (58 : UInt8).toNat = 58 := rfl
    omega
  · have e : (59 : UInt8).toNat = 59 := rfl
    omega
theorem joinT_no {xs : List Int} (h0 : ∀ x ∈ xs, 0 ≤ x) {b : UInt8} (hb : b = 58 ∨ b = 59) : b ∉ joinT xs := by
  unfold joinT
  induction xs with
  | nil => simp [Lib.join_nil]
  | cons x r ih =>
    have hx := h0 x (by simp)
    obtain ⟨n, rfl⟩ : ∃ n : Nat, x = n := ⟨x.toNat, by omega⟩
    have h1 : b ∉ decL (n : Int) := dec_no (by rcases hb with h | h; exact .inr (.inl h); exact .inr (.inr h))
    cases r with
    | nil => rw [List.map_cons, List.map_nil, Lib.join_one]; exact h1
    | cons z r =>
      have hi := ih fun y hy => h0 y (by simp [hy])
      have hj : Lib.join ((((n : Int) :: z :: r)).map decL) [32] = decL (n : Int) ++ 32 :: Lib.join ((z :: r).map decL) [32] := by simp [Lib.join, List.intercalate]
      rw [hj]
      intro hm
      rcases List.mem_append.1 hm with hm | hm
      · exact h1 hm
      · rcases List.mem_cons.1 hm with hm | hm
        · rcases hb with rfl | rfl <;> exact absurd hm (by decide)
        · exact hi hm
/-- The words of a joined text. -/
theorem split_jb {xs : List Int} (h : xs ≠ []) (h0 : ∀ x ∈ xs, 0 ≤ x) : Lib.split (joinT xs) [32] = xs.map decL := by
  unfold joinT
  refine split_join 32 _ (by simpa using h) fun w hw => ?_
  obtain ⟨x, hx, rfl⟩ := List.mem_map.1 hw
  have := h0 x hx
  obtain ⟨n, rfl⟩ : ∃ n : Nat, x = n := ⟨x.toNat, by omega⟩
  exact dec_no (.inl rfl)
/-- The bytes of a metric's text. -/
def metB (os : List Int) (D : Int) (vs : List Int) : List UInt8 := joinT os ++ 59 :: (decL D ++ 58 :: joinT vs)
theorem metText_data (os : List Int) (D : Int) (vs : List Int) : (metText os D vs).data.toList = metB os D vs := by
  unfold metText metB jb dec decL
  simp
theorem met_cut1 {os : List Int} {D : Int} {vs : List Int} (h0 : ∀ x ∈ os, 0 ≤ x) : Lib.cut (metB os D vs) [59] = (joinT os, decL D ++ 58 :: joinT vs, true) := cut_word 59 _ _ (joinT_no h0 (.inr rfl))
theorem met_cut2 {D : Int} {vs : List Int} (hD : 0 ≤ D) : Lib.cut (decL D ++ 58 :: joinT vs) [58] = (decL D, joinT vs, true) := by
  obtain ⟨n, rfl⟩ : ∃ n : Nat, D = n := ⟨D.toNat, by omega⟩
  exact cut_word 58 _ _ (dec_no (.inr (.inl rfl)))
/-- What of the library's own variables is asked. -/
structure TbZ (w : World) : Prop where
  p : TbP w
  m : ∃ m, w.cell? ⟨0, 0, none⟩ = some (.int .i64 m)
  s : ∃ t q, w.cell? ⟨1, 0, none⟩ = some (.iface t q)
  r : ∃ t q, w.cell? ⟨2, 0, none⟩ = some (.iface t q)
theorem TbZ.bel {w w' : World} (h : TbZ w) (hb : Below w.heap.size w w') : TbZ w' := by
  obtain ⟨h1, ⟨m, h2⟩, ⟨t, q, h3⟩, ⟨t', q', h4⟩⟩ := h
  refine ⟨h1.bel hb, ⟨m, ?_⟩, ⟨t, q, ?_⟩, ⟨t', q', ?_⟩⟩
  · rw [hb.cell (World.block_lt_of_cell? _ _ h2)]; exact h2
  · rw [hb.cell (World.block_lt_of_cell? _ _ h3)]; exact h3
  · rw [hb.cell (World.block_lt_of_cell? _ _ h4)]; exact h4
theorem parse_ok64 {l : List UInt8} {v : Int} (h : Lib.parseIntB 64 l = .ok v) : i64ok v := by
  unfold Lib.parseIntB at h
  split at h
  · cases h
  · simp only at h
    split at h
    · cases h
    · cases h
    · rename_i u _
      split at h
      · cases h
      · rename_i h1
        split at h
        · cases h
        · rename_i h2
          injection h with h
          subst h
          split
          · rename_i hn
            have : ¬ 2 ^ (64 - 1) < u := fun h3 => h2 ⟨hn, h3⟩
            exact ⟨by omega, by omega⟩
          · rename_i hn
            have : ¬ 2 ^ (64 - 1) ≤ u := fun h3 => h1 ⟨hn, h3⟩
            exact ⟨by omega, by omega⟩
/-- What readDecimal returns. -/
def rdV (s : ByteArray) : Int := match Lib.parseIntB 64 s.data.toList with
  | .ok v => v
  | .range => Lib.intSat 64 s.data.toList
  | _ => 0
def rdB (s : ByteArray) : Bool := match Lib.parseIntB 64 s.data.toList with
  | .ok v => (dec v).toList == s.toList
  | _ => false
def parseLay_ren : Go.Shelf.Ren := ⟨fun | 174 => 80 | 247 => 108 | 245 => 109 | 287 => 124 | 279 => 125 | 280 => 126 | 281 => 127 | 282 => 128 | 321 => 140 | 322 => 141 | 316 => 142 | 171 => 144 | 205 => 143 | 243 => 153 | 246 => 116 | 283 => 131 | 284 => 132 | 285 => 133 | 286 => 134 | 129 => 148 | 317 => 147 | 318 => 149 | 319 => 150 | 320 => 151 | 337 => 154 | 338 => 155 | n => n, fun | 9 => 9 | 3 => 3 | 2 => 2 | 75 => 97 | 85 => 98 | 4 => 4 | 167 => 131 | 5 => 5 | 53 => 37 | 175 => 132 | 46 => 55 | 168 => 134 | 37 => 22 | 0 => 0 | 210 => 154 | 21 => 21 | 127 => 137 | 145 => 166 | 143 => 164 | 171 => 139 | 173 => 142 | 212 => 160 | 51 => 144 | 20 => 20 | 213 => 161 | 232 => 172 | 233 => 173 | 80 => 127 | n => n, fun | 15 => 1 | 16 => 2 | 17 => 3 | 18 => 6 | 19 => 7 | n => n⟩
theorem parseLay : Go.Proofs.LaysC.n174 Tryz.prog parseLay_ren := {
  mixed := by kernel_rfl
  f129 := Tryz.func148.trans (congrArg some (by kernel_rfl))
  f171 := Tryz.func144.trans (congrArg some (by kernel_rfl))
  f174 := Tryz.func80.trans (congrArg some (by kernel_rfl))
  f205 := Tryz.func143.trans (congrArg some (by kernel_rfl))
  f243 := Tryz.func153.trans (congrArg some (by kernel_rfl))
  f245 := Tryz.func109.trans (congrArg some (by kernel_rfl))
  f246 := Tryz.func116.trans (congrArg some (by kernel_rfl))
  f247 := Tryz.func108.trans (congrArg some (by kernel_rfl))
  f279 := Tryz.func125.trans (congrArg some (by kernel_rfl))
  f280 := Tryz.func126.trans (congrArg some (by kernel_rfl))
  f281 := Tryz.func127.trans (congrArg some (by kernel_rfl))
  f282 := Tryz.func128.trans (congrArg some (by kernel_rfl))
  f283 := Tryz.func131.trans (congrArg some (by kernel_rfl))
  f284 := Tryz.func132.trans (congrArg some (by kernel_rfl))
  f285 := Tryz.func133.trans (congrArg some (by kernel_rfl))
  f286 := Tryz.func134.trans (congrArg some (by kernel_rfl))
  f287 := Tryz.func124.trans (congrArg some (by kernel_rfl))
  f316 := Tryz.func142.trans (congrArg some (by kernel_rfl))
  f317 := Tryz.func147.trans (congrArg some (by kernel_rfl))
  f318 := Tryz.func149.trans (congrArg some (by kernel_rfl))
  f319 := Tryz.func150.trans (congrArg some (by kernel_rfl))
  f320 := Tryz.func151.trans (congrArg some (by kernel_rfl))
  f321 := Tryz.func140.trans (congrArg some (by kernel_rfl))
  f322 := Tryz.func141.trans (congrArg some (by kernel_rfl))
  f337 := Tryz.func154.trans (congrArg some (by kernel_rfl))
  f338 := Tryz.func155.trans (congrArg some (by kernel_rfl))
  t0 := Tryz.underlying0
  a0 := Tryz.isAgg0
  z0 := Tryz.sizeOf0
  v0 := Tryz.zeroValue0
  t2 := Tryz.underlying2
  a2 := Tryz.isAgg2
  z2 := Tryz.sizeOf2
  v2 := Tryz.zeroValue2
  t3 := Tryz.underlying3
  a3 := Tryz.isAgg3
  z3 := Tryz.sizeOf3
  v3 := Tryz.zeroValue3
  t4 := Tryz.underlying4
  a4 := Tryz.isAgg4
  z4 := Tryz.sizeOf4
  v4 := Tryz.zeroValue4
  t5 := Tryz.underlying5
  a5 := Tryz.isAgg5
  z5 := Tryz.sizeOf5
  v5 := Tryz.zeroValue5
  t9 := Tryz.underlying9
  a9 := Tryz.isAgg9
  z9 := Tryz.sizeOf9
  v9 := Tryz.zeroValue9
  t20 := Tryz.underlying20
  a20 := Tryz.isAgg20
  z20 := Tryz.sizeOf20
  v20 := Tryz.zeroValue20
  t21 := Tryz.underlying21
  a21 := Tryz.isAgg21
  z21 := Tryz.sizeOf21
  v21 := Tryz.zeroValue21
  t37 := Tryz.underlying22
  a37 := Tryz.isAgg22
  z37 := Tryz.sizeOf22
  v37 := Tryz.zeroValue22
  t46 := Tryz.underlying55
  a46 := Tryz.isAgg55
  z46 := Tryz.sizeOf55
  v46 := Tryz.zeroValue55
  t51 := Tryz.underlying144
  a51 := Tryz.isAgg144
  z51 := Tryz.sizeOf144
  v51 := Tryz.zeroValue144
  t53 := Tryz.underlying37
  a53 := Tryz.isAgg37
  z53 := Tryz.sizeOf37
  v53 := Tryz.zeroValue37
  t75 := Tryz.underlying97
  a75 := Tryz.isAgg97
  z75 := Tryz.sizeOf97
  v75 := Tryz.zeroValue97
  t85 := Tryz.underlying98
  a85 := Tryz.isAgg98
  z85 := Tryz.sizeOf98
  v85 := Tryz.zeroValue98
  t127 := Tryz.underlying137
  a127 := Tryz.isAgg137
  z127 := Tryz.sizeOf137
  v127 := Tryz.zeroValue137
  t143 := Tryz.underlying164
  a143 := Tryz.isAgg164
  z143 := Tryz.sizeOf164
  v143 := Tryz.zeroValue164
  t145 := Tryz.underlying166
  a145 := Tryz.isAgg166
  z145 := Tryz.sizeOf166
  v145 := Tryz.zeroValue166
  t167 := Tryz.underlying131
  a167 := Tryz.isAgg131
  z167 := Tryz.sizeOf131
  v167 := Tryz.zeroValue131
  t168 := Tryz.underlying134
  a168 := Tryz.isAgg134
  z168 := Tryz.sizeOf134
  v168 := Tryz.zeroValue134
  t171 := Tryz.underlying139
  a171 := Tryz.isAgg139
  z171 := Tryz.sizeOf139
  v171 := Tryz.zeroValue139
  t173 := Tryz.underlying142
  a173 := Tryz.isAgg142
  z173 := Tryz.sizeOf142
  v173 := Tryz.zeroValue142
  t175 := Tryz.underlying132
  a175 := Tryz.isAgg132
  z175 := Tryz.sizeOf132
  v175 := Tryz.zeroValue132
  t210 := Tryz.underlying154
  a210 := Tryz.isAgg154
  z210 := Tryz.sizeOf154
  v210 := Tryz.zeroValue154
  t212 := Tryz.underlying160
  a212 := Tryz.isAgg160
  z212 := Tryz.sizeOf160
  v212 := Tryz.zeroValue160
  t213 := Tryz.underlying161
  a213 := Tryz.isAgg161
  z213 := Tryz.sizeOf161
  t232 := Tryz.underlying172
  a232 := Tryz.isAgg172
  z232 := Tryz.sizeOf172
  v232 := Tryz.zeroValue172
  t233 := Tryz.underlying173
  a233 := Tryz.isAgg173
  z233 := Tryz.sizeOf173
  v233 := Tryz.zeroValue173
  g15 := by kernel_rfl
  g16 := by kernel_rfl
  g17 := by kernel_rfl
  g18 := by kernel_rfl
  g19 := by kernel_rfl
  t80 := Tryz.underlying127
  a80 := Tryz.isAgg127
  z80 := Tryz.sizeOf127
  v80 := Tryz.zeroValue127
  i0 := by kernel_rfl
  i2 := by kernel_rfl
  i3 := by kernel_rfl
  i4 := by kernel_rfl
  i5 := by kernel_rfl
  i9 := by kernel_rfl
  i20 := by kernel_rfl
  i21 := by kernel_rfl
  i37 := by kernel_rfl
  i46 := by kernel_rfl
  i51 := by kernel_rfl
  i53 := by kernel_rfl
  i75 := by kernel_rfl
  i80 := by kernel_rfl
  i85 := by kernel_rfl
  i127 := by kernel_rfl
  i143 := by kernel_rfl
  i145 := by kernel_rfl
  i167 := by kernel_rfl
  i168 := by kernel_rfl
  i171 := by kernel_rfl
  i173 := by kernel_rfl
  i175 := by kernel_rfl
  i210 := by kernel_rfl
  i212 := by kernel_rfl
  i232 := by kernel_rfl
  i233 := by kernel_rfl
  m15 := by kernel_rfl
  m16 := by kernel_rfl
  m17 := by kernel_rfl
  m18 := by kernel_rfl
  m19 := by kernel_rfl
  c0 := by kernel_rfl
  c2 := by kernel_rfl
  c3 := by kernel_rfl
  c4 := by kernel_rfl
  c5 := by kernel_rfl
  c9 := by kernel_rfl
  c20 := by kernel_rfl
  c21 := by kernel_rfl
  c37 := by kernel_rfl
  c46 := by kernel_rfl
  c51 := by kernel_rfl
  c53 := by kernel_rfl
  c75 := by kernel_rfl
  c80 := by kernel_rfl
  c85 := by kernel_rfl
  c127 := by kernel_rfl
  c143 := by kernel_rfl
  c145 := by kernel_rfl
  c167 := by kernel_rfl
  c168 := by kernel_rfl
  c171 := by kernel_rfl
  c173 := by kernel_rfl
  c175 := by kernel_rfl
  c210 := by kernel_rfl
  c212 := by kernel_rfl
  c213 := by kernel_rfl
  c232 := by kernel_rfl
  c233 := by kernel_rfl }
set_option maxHeartbeats 4000000 in
theorem readDecimal_any (w : World) (s : ByteArray) (hs : s.size ≤ 1073741824) (hT : TbZ w) : Calls Tryz.prog 40 #[.string s] w (Re w (.tuple #[.int .i64 (rdV s), .bool (rdB s)])) := by
  cases hp : Lib.parseIntB 64 s.data.toList with
  | ok v =>
    have hv := parse_ok64 hp
    have HV := hide (show rdV s = v by unfold rdV; rw [hp])
    have HB := hide (show rdB s = ((dec v).toList == s.toList) by unfold rdB; rw [hp])
    have hP := Any.strconv_ParseInt_10_at64_ok parseLay s (by omega) v hp w
    go_enter Tryz.func40, Tryz.ntmps40
    go_wp2_with fail
    refine hP.mono ?_
    rintro e w1 ⟨rfl, hw1⟩
    have hb1 : Below w.heap.size w w1 := by
      rcases hw1 with rfl | ⟨t, rfl⟩
      · exact Below.refl _ _
      · exact ⟨rfl, rfl, rfl, by rw [Lib.bytesWorld_size]; omega, fun k hk => Lib.bytesWorld_at_old w _ t k (by omega)⟩
    clear hw1 hP
    go_wp2_with fail
    refine (decimal_any _ v hv (hT.bel hb1).p).mono ?_
    rintro e w2 ⟨rfl, hb2⟩
    have hb3 := hb1.trans (hb2.mono hb1.size)
    go_wp2_with fail
    refine bodyPost_ret (v := .tuple #[.int .i64 v, .bool ((dec v).toList == s.toList)]) (by simp [results, Tryz.results40, go_sem]) rfl ?_
    exact ⟨by rw [HV.out, HB.out], hb3⟩
  | range =>
    have HV := hide (show rdV s = Lib.intSat 64 s.data.toList by unfold rdV; rw [hp])
    have HB := hide (show rdB s = false by unfold rdB; rw [hp])
    obtain ⟨tp, q, hc⟩ := hT.r
    have hP := Any.strconv_ParseInt_10_at64_range parseLay s (by omega) hp (.iface tp q) w (by exact hc) (Or.inr ⟨tp, q, rfl⟩)
    obtain ⟨z, hz⟩ : ∃ z, Lib.intSat 64 s.data.toList = z := ⟨_, rfl⟩
    rw [hz] at hP HV
    go_enter Tryz.func40, Tryz.ntmps40
    go_wp2_with fail
    refine hP.mono ?_
    rintro e w1 ⟨N, rfl, _, _, hb1⟩
    clear hP
    go_wp2_with fail
    refine bodyPost_ret (v := .tuple #[.int .i64 z, .bool false]) (by simp [results, Tryz.results40, go_sem]) rfl ?_
    exact ⟨by rw [HV.out, HB.out], hb1⟩
  | _ =>
    have HV := hide (show rdV s = 0 by unfold rdV; rw [hp])
    have HB := hide (show rdB s = false by unfold rdB; rw [hp])
    obtain ⟨tp, q, hc⟩ := hT.s
    have hP := Any.strconv_ParseInt_10_at64_syntax parseLay s (by omega) hp (.iface tp q) w (by exact hc) (Or.inr ⟨tp, q, rfl⟩)
    go_enter Tryz.func40, Tryz.ntmps40
    go_wp2_with fail
    refine hP.mono ?_
    rintro e w1 ⟨N, rfl, _, _, hb1⟩
    clear hP
    go_wp2_with fail
    refine bodyPost_ret (v := .tuple #[.int .i64 0, .bool false]) (by simp [results, Tryz.results40, go_sem]) rfl ?_
    exact ⟨by rw [HV.out, HB.out], hb1⟩
def sp32 : ByteArray := ⟨#[32]⟩
/-- The words of a text. -/
def wds (s : ByteArray) : List ByteArray := Lib.splitB sp32 0 (Lib.countB s sp32) s
theorem splitB_size (sep : ByteArray) : ∀ (k : Nat) (s x : ByteArray), x ∈ Lib.splitB sep 0 k s → x.size ≤ s.size := by
  intro k
  induction k with
  | zero => intro s x h; rw [Lib.splitB_zero] at h; rw [List.mem_singleton.1 h]; exact Nat.le_refl _
  | succ k ih =>
    intro s x h
    unfold Lib.splitB at h
    split at h
    · rw [List.mem_singleton.1 h]; exact Nat.le_refl _
    · rcases List.mem_cons.1 h with h | h
      · rw [h, ByteArray.size_extract]; omega
      · have := ih _ _ h
        rw [ByteArray.size_extract] at this
        omega
theorem wds_len (s : ByteArray) : (wds s).length = Lib.countB s sp32 + 1 := Lib.splitB_all sp32 (by decide) 0 _ s rfl
/-- The numbers of a text. -/
def riB (s : ByteArray) : Bool := (wds s).all rdB
def riL (s : ByteArray) : List Int := if riB s = true then (wds s).map rdV else []
theorem rdV_ok {s : ByteArray} (h : rdB s = true) : i64ok (rdV s) := by
  unfold rdB at h
  unfold rdV
  cases hp : Lib.parseIntB 64 s.data.toList with
  | ok v => exact parse_ok64 hp
  | _ => rw [hp] at h; cases h
theorem riB_no {s x : ByteArray} {k : Nat} (hk : (wds s)[k]? = some x) (h : rdB x = false) : riB s = false := by
  unfold riB
  refine Bool.eq_false_iff.2 fun ha => ?_
  have := List.all_eq_true.1 ha x (List.mem_of_getElem? hk)
  rw [h] at this; cases this
def splitLay_ren : Go.Shelf.Ren := ⟨fun | 146 => 79 | 221 => 107 | 268 => 121 | 138 => 122 | 143 => 123 | 195 => 137 | 197 => 138 | 218 => 139 | 219 => 106 | 260 => 152 | 217 => 117 | 225 => 118 | 224 => 119 | 267 => 120 | 266 => 135 | 314 => 136 | n => n, fun | 9 => 9 | 31 => 69 | 3 => 3 | 4 => 4 | 0 => 0 | 105 => 148 | 21 => 21 | 5 => 5 | 46 => 55 | 119 => 168 | 139 => 171 | 138 => 170 | 146 => 145 | 51 => 144 | n => n, fun | 1 => 0 | 3 => 4 | 4 => 5 | n => n⟩
theorem splitLay : Go.Proofs.Lays.n146 Tryz.prog splitLay_ren := {
  mixed := by kernel_rfl
  f138 := Tryz.func122.trans (congrArg some (by kernel_rfl))
  f143 := Tryz.func123.trans (congrArg some (by kernel_rfl))
  f146 := Tryz.func79.trans (congrArg some (by kernel_rfl))
  f195 := Tryz.func137.trans (congrArg some (by kernel_rfl))
  f197 := Tryz.func138.trans (congrArg some (by kernel_rfl))
  f217 := Tryz.func117.trans (congrArg some (by kernel_rfl))
  f218 := Tryz.func139.trans (congrArg some (by kernel_rfl))
  f219 := Tryz.func106.trans (congrArg some (by kernel_rfl))
  f221 := Tryz.func107.trans (congrArg some (by kernel_rfl))
  f224 := Tryz.func119.trans (congrArg some (by kernel_rfl))
  f225 := Tryz.func118.trans (congrArg some (by kernel_rfl))
  f260 := Tryz.func152.trans (congrArg some (by kernel_rfl))
  f266 := Tryz.func135.trans (congrArg some (by kernel_rfl))
  f267 := Tryz.func120.trans (congrArg some (by kernel_rfl))
  f268 := Tryz.func121.trans (congrArg some (by kernel_rfl))
  f314 := Tryz.func136.trans (congrArg some (by kernel_rfl))
  t0 := Tryz.underlying0
  a0 := Tryz.isAgg0
  z0 := Tryz.sizeOf0
  v0 := Tryz.zeroValue0
  t3 := Tryz.underlying3
  a3 := Tryz.isAgg3
  z3 := Tryz.sizeOf3
  v3 := Tryz.zeroValue3
  t4 := Tryz.underlying4
  a4 := Tryz.isAgg4
  z4 := Tryz.sizeOf4
  v4 := Tryz.zeroValue4
  t5 := Tryz.underlying5
  a5 := Tryz.isAgg5
  z5 := Tryz.sizeOf5
  v5 := Tryz.zeroValue5
  t9 := Tryz.underlying9
  a9 := Tryz.isAgg9
  z9 := Tryz.sizeOf9
  v9 := Tryz.zeroValue9
  t21 := Tryz.underlying21
  a21 := Tryz.isAgg21
  z21 := Tryz.sizeOf21
  v21 := Tryz.zeroValue21
  t31 := Tryz.underlying69
  a31 := Tryz.isAgg69
  z31 := Tryz.sizeOf69
  v31 := Tryz.zeroValue69
  t46 := Tryz.underlying55
  a46 := Tryz.isAgg55
  z46 := Tryz.sizeOf55
  v46 := Tryz.zeroValue55
  t51 := Tryz.underlying144
  a51 := Tryz.isAgg144
  z51 := Tryz.sizeOf144
  v51 := Tryz.zeroValue144
  t105 := Tryz.underlying148
  a105 := Tryz.isAgg148
  z105 := Tryz.sizeOf148
  v105 := Tryz.zeroValue148
  t119 := Tryz.underlying168
  a119 := Tryz.isAgg168
  z119 := Tryz.sizeOf168
  t138 := Tryz.underlying170
  a138 := Tryz.isAgg170
  z138 := Tryz.sizeOf170
  v138 := Tryz.zeroValue170
  t139 := Tryz.underlying171
  a139 := Tryz.isAgg171
  z139 := Tryz.sizeOf171
  v139 := Tryz.zeroValue171
  t146 := Tryz.underlying145
  a146 := Tryz.isAgg145
  z146 := Tryz.sizeOf145
  v146 := Tryz.zeroValue145
  g1 := by kernel_rfl
  g3 := by kernel_rfl
  g4 := by kernel_rfl }
theorem E1.of_ow' {w : World} {B : Nat} {v : Value} {xs : List Int} (h : Ow w B v xs) (hr : ∀ x ∈ xs, i64ok x) : E1 w v xs (fun b => B ≤ b ∧ b < w.heap.size) := ⟨h.less (Nat.zero_le _), hr, fun b hb => h.lt b hb, fun b hb => hb.2⟩
/-- What readIntegers returns. -/
def MkB1 (w : World) (xs : List Int) (b : Bool) (e : Ending) (w' : World) : Prop := ∃ v, e = .returned (.tuple #[v, .bool b]) ∧ E1 w' v xs (fun b => w.heap.size ≤ b ∧ b < w'.heap.size) ∧ Below w.heap.size w w'
set_option maxHeartbeats 4000000 in
theorem readIntegers_any (w : World) (s : ByteArray) (hs : s.size ≤ 1073741824) (hT : TbZ w) : Calls Tryz.prog 39 #[.string s] w (MkB1 w (riL s) (riB s)) := by
  obtain ⟨m, hm⟩ := hT.m
  have hO0 : Ow (w.alloc (.cells #[] 2)) w.heap.size (.slice (some ⟨w.heap.size, 0, none⟩) 0 0) (((wds s).take 0).map rdV) := Ow.made' (xs := []) _ _ w.heap.size 0 rfl rfl (Nat.le_refl _) rfl (by unfold maxLen; omega)
  have hb0 : Below w.heap.size w (w.alloc (.cells #[] 2)) := (Below.refl _ _).alloc (Nat.le_refl _) _
  obtain ⟨W, hW⟩ : ∃ W, w.alloc (.cells #[] 2) = W := ⟨_, rfl⟩
  have hS := Any.strings_Split splitLay str_info s sp32 m W (by omega) (by rw [← hW]; exact (hb0.cell (World.block_lt_of_cell? _ _ hm)).trans hm) (by decide)
  have hWl := wds_len s
  have hcl : Lib.countB s sp32 ≤ s.size := Lib.countB_le sp32 (by decide) s.size s (Nat.le_refl _)
  go_enter Tryz.func39, Tryz.ntmps39
  go_wp2_with fail
  rw [hW] at hO0 hb0
  refine hS.mono ?_
  rintro e w1 ⟨rfl, hw1⟩
  have hb1 : Below W.heap.size W w1 := by rw [hw1]; exact (Below.refl _ _).alloc (Nat.le_refl _) _
  have hlt1 : W.heap.size < w1.heap.size := by rw [hw1]; simp
  have hK1 : Blk w1 W.heap.size (splitLay_ren.t 9) ((wds s).map Value.string).toArray := by rw [hw1]; exact Blk.new _ _ _
  have hO1 := hO0.below hb1
  have hB1 := hb0.trans (hb1.mono hb0.size)
  obtain ⟨G, hG⟩ : ∃ G, W.heap.size = G := ⟨_, rfl⟩
  obtain ⟨n, hn⟩ : ∃ n, Lib.countB s sp32 + 1 = n := ⟨_, rfl⟩
  rw [hn] at hWl ⊢
  rw [hG] at hlt1 hK1 ⊢
  clear hw1 hS hb1 hO0 hb0 hW hG
  go_wp2_with fail
  go_loopw [4, 13] (fun ov i wr => ∃ k : Nat, k ≤ n ∧ i = .int .i64 k ∧ Hid (∀ j x, j < k → (wds s)[j]? = some x → rdB x = true) ∧ Ow wr w.heap.size ov (((wds s).take k).map rdV) ∧ Below w.heap.size w wr ∧ Blk wr G (splitLay_ren.t 9) ((wds s).map Value.string).toArray) (fun _ i _ => n - (intOf i).toNat)
  case atStart => exact ⟨0, by omega, rfl, hide fun j x hj => absurd hj (by omega), hO1, hB1, hK1⟩
  case round =>
    clear hO1 hB1 hK1
    obtain ⟨k, hk, rfl, HP, hO, hBe, hB2⟩ := hrel
    have hsz := hBe.size
    by_cases hlk : k < n
    · obtain ⟨x, hx⟩ := get_at (xs := wds s) (k := k) (by omega)
      have c1 : wr.cell? ⟨G, k, none⟩ = some (.string x) := (hB2.cell k).trans (by simp [hx])
      have hxs : x.size ≤ 1073741824 := Nat.le_trans (splitB_size sp32 _ s x (List.mem_of_getElem? hx)) hs
      have HX := hide hx
      clear hx
      have hR := readDecimal_any wr x hxs (hT.bel hBe)
      cases hr : rdB x with
      | false =>
        rw [hr] at hR
        have hF := hide (riB_no HX.out hr)
        have hL := hide (show riL s = [] by unfold riL; rw [hF.out]; rfl)
        clear hr
        go_wp2_with fail
        clear c1
        refine hR.mono ?_
        rintro e w5 ⟨rfl, hb5⟩
        go_wp2_with fail
        refine bodyPost_ret (v := .tuple #[.slice none 0 0, .bool false]) (by simp [results, Tryz.results39, go_sem]) rfl ?_
        exact ⟨_, by rw [hF.out], by rw [hL.out]; exact ⟨Ow.nil _ _, by simp, fun b hb => by simp [Value.ownBlock] at hb, fun b hb => hb.2⟩, hBe.trans (hb5.mono hsz)⟩
      | true =>
        have hv := rdV_ok hr
        rw [hr] at hR
        have HR := hide hr
        clear hr
        obtain ⟨z, hz⟩ : ∃ z, rdV x = z := ⟨_, rfl⟩
        rw [hz] at hR hv
        have htk : ((wds s).take k).map rdV ++ [z] = ((wds s).take (k + 1)).map rdV := by rw [List.take_add_one, HX.out, List.map_append, ← hz]; rfl
        have HTK := hide htk
        have hlen : (((wds s).take k).map rdV).length = k := by simp; omega
        clear htk hz
        go_wp2_with fail
        clear c1
        refine hR.mono ?_
        rintro e w5 ⟨rfl, hb5⟩
        have hO5 := hO.below hb5
        have hB5 := hBe.trans (hb5.mono hsz)
        have hB6 := hB2.all hb5
        have hs5 := hB5.size
        go_wp2_with (at_builtin; refine list_push _ rfl _ _ rfl w.heap.size _ _ rfl (hO5.alloc _) z w5.heap.size _ rfl (Blk.new _ _ _) (by rw [hlen]; omega) (by simp; omega) (by simp) ?_; intro g cap w8 hP)
        have hown := hP.own
        rw [HTK.out, hlen] at hown
        have HOw := hide hown
        have hbp := hP.below (hO5.alloc _) (by simp; omega)
        have hB7 := (hB5.alloc hs5 (.cells #[.int .i64 z] 2)).trans hbp
        have hB8 := hP.blk (hO5.alloc _) (hB6.alloc _) (by decide)
        have hmn : min k (wds s).length = k := by omega
        clear hown hP hO5 hO hlen
        go_roundw
        case rel => exact ⟨k + 1, by omega, by go_num, hide (fun j x hj hx => by
          rcases Nat.lt_succ_iff_lt_or_eq.1 hj with h2 | rfl
          · exact HP.out j x h2 hx
          · rw [HX.out] at hx; cases hx; exact HR.out), by (try rw [hmn]); exact HOw.out, hB7, hB8⟩
        case measure => simp [intOf] <;> omega
    · obtain rfl : k = n := by omega
      have hall : riB s = true := by
        unfold riB
        refine List.all_eq_true.2 fun x hx => ?_
        obtain ⟨j, hj, rfl⟩ := List.getElem_of_mem hx
        exact HP.out j _ (by omega) (List.getElem?_eq_getElem hj)
      have hT2 := hide hall
      have hL := hide (show riL s = (wds s).map rdV by unfold riL; rw [hall]; rfl)
      rw [List.take_of_length_le (by omega)] at hO
      have hrng : ∀ x ∈ (wds s).map rdV, i64ok x := fun x hx => by
        obtain ⟨y, hy, rfl⟩ := List.mem_map.1 hx
        exact rdV_ok (List.all_eq_true.1 hT2.out y hy)
      have HE := hide (E1.of_ow' hO hrng)
      clear hall hO hrng
      go_wp2_with fail
      refine bodyPost_ret (v := .tuple #[u4, .bool true]) (by simp [results, Tryz.results39, go_sem]) rfl ?_
      exact ⟨_, by rw [hT2.out], by rw [hL.out]; exact HE.out, hBe⟩
/-- What l01Value returns at the text of a small number. -/
def lvB (l : List UInt8) : Bool := !l.isEmpty && decide (l.length ≤ 9) && !(decide (1 < l.length) && l.head? == some 48) && l.all isDg
def lv (s : ByteArray) : Int := if lvB s.data.toList = true then (valD 0 s.data.toList : Nat) else -1
theorem valD_lt (l : List UInt8) : ∀ acc k, acc < 10 ^ k → (∀ x ∈ l, isDg x = true) → valD acc l < 10 ^ (k + l.length) := by
  induction l with
  | nil => intro acc k h _; exact h
  | cons c r ih =>
    intro acc k h hd
    have hc := hd c (by simp)
    unfold isDg at hc
    rw [decide_eq_true_eq] at hc
    have := ih (acc * 10 + (c.toNat - 48)) (k + 1) (by rw [Nat.pow_succ]; omega) fun x hx => hd x (by simp [hx])
    have e : k + (c :: r).length = k + 1 + r.length := by simp; omega
    rw [e]
    exact this
theorem valD_take {l : List UInt8} {k : Nat} {x : UInt8} (h : l[k]? = some x) : valD 0 (l.take (k + 1)) = valD 0 (l.take k) * 10 + (x.toNat - 48) := by
  unfold valD
  rw [List.take_add_one, h, List.foldl_append]
  rfl
theorem lvB_early (s : ByteArray) (h : s.size = 0 ∨ 9 < s.size) : lv s = -1 := by
  have hsz : s.size = s.data.toList.length := Lib.size_eq s
  unfold lv lvB
  rcases h with h | h
  · have : s.data.toList = [] := List.eq_nil_of_length_eq_zero (by omega)
    rw [this]; rfl
  · have : decide (s.data.toList.length ≤ 9) = false := by simp; omega
    rw [this]; simp
set_option maxHeartbeats 4000000 in
theorem l01Value_early (w : World) (s : ByteArray) (h : s.size = 0 ∨ 9 < s.size) (hs : s.size ≤ 1073741824) : Calls Tryz.prog 46 #[.string s] w (Re w (.int .i64 (lv s))) := by
  have hE := hide (lvB_early s h)
  obtain ⟨n, hn⟩ : ∃ n, s.size = n := ⟨_, rfl⟩
  rw [hn] at h hs
  rcases h with rfl | h
  · go_enter Tryz.func46, Tryz.ntmps46
    go_wp2_with fail
    go_ret
    exact ⟨by rw [hE.out]; rfl, Below.refl _ _⟩
  · have h0 : ¬ n = 0 := by omega
    have h9 : (9 : Int) < n := by omega
    go_enter Tryz.func46, Tryz.ntmps46
    go_wp2_with fail
    go_ret
    exact ⟨by rw [hE.out]; rfl, Below.refl _ _⟩
def by_ (s : ByteArray) (k : Nat) : UInt8 := s.data.toList.getD k 0
theorem by_get (s : ByteArray) {k : Nat} (h : k < s.size) : (s[k]'h) = by_ s k := by
  have h' : k < s.data.size := h
  unfold by_
  rw [List.getD_eq_getElem?_getD, Array.getElem?_toList, Array.getElem?_eq_getElem h']
  rfl
theorem by_some (s : ByteArray) {k : Nat} (h : k < s.size) : s.data.toList[k]? = some (by_ s k) := by
  have h' : k < s.data.toList.length := by rw [← Lib.size_eq]; exact h
  unfold by_
  rw [List.getD_eq_getElem?_getD, List.getElem?_eq_getElem h']; rfl
theorem lv_no {s : ByteArray} {k : Nat} (hk : k < s.size) (h : isDg (by_ s k) = false) : lv s = -1 := by
  unfold lv lvB
  have : s.data.toList.all isDg = false := by
    refine Bool.eq_false_iff.2 fun ha => ?_
    have := List.all_eq_true.1 ha _ (List.mem_of_getElem? (by_some s hk))
    rw [h] at this; cases this
  rw [this, Bool.and_false]; rfl
theorem lv_yes {s : ByteArray} (h1 : 1 ≤ s.size) (h9 : s.size ≤ 9) (hz : ¬ (1 < s.size ∧ by_ s 0 = 48)) (hall : ∀ j, j < s.size → isDg (by_ s j) = true) : lv s = (valD 0 s.data.toList : Nat) := by
  have hsz : s.size = s.data.toList.length := Lib.size_eq s
  have hA : s.data.toList.all isDg = true := by
    refine List.all_eq_true.2 fun x hx => ?_
    obtain ⟨j, hj⟩ := List.mem_iff_getElem?.1 hx
    have hj2 := (List.getElem?_eq_some_iff.1 hj).1
    rw [by_some s (by omega)] at hj
    cases hj
    exact hall j (by omega)
  have hE : s.data.toList.isEmpty = false := by
    rw [List.isEmpty_eq_false_iff]
    intro e
    have h0 : s.data.toList.length = 0 := by rw [e]; rfl
    omega
  have hH : (decide (1 < s.data.toList.length) && s.data.toList.head? == some 48) = false := by
    refine Bool.eq_false_iff.2 fun ha => hz ?_
    rw [Bool.and_eq_true, decide_eq_true_eq] at ha
    refine ⟨by omega, ?_⟩
    have h2 := by_some s (k := 0) (by omega)
    rw [← List.head?_eq_getElem?] at h2
    rw [h2] at ha
    simpa using ha.2
  unfold lv lvB
  rw [hA, hE, hH, decide_eq_true (show s.data.toList.length ≤ 9 by omega)]
  rfl
set_option maxHeartbeats 4000000 in
theorem l01Value_main (w : World) (s : ByteArray) (n : Nat) (hn : s.size = n) (h1 : n = 1) : Calls Tryz.prog 46 #[.string s] w (Re w (.int .i64 (lv s))) := by
  subst h1
  go_enter Tryz.func46, Tryz.ntmps46
  go_wp2_with fail
  obtain ⟨n, hnn⟩ : ∃ n, n = 1 := ⟨_, rfl⟩
  rw [← hnn] at hn
  have HZ := hide (show ¬ (1 < s.size ∧ by_ s 0 = 48) by omega)
  go_loopw [3, 4] (fun nv i wr => ∃ k : Nat, k ≤ n ∧ i = .int .i64 k ∧ nv = .int .i64 (valD 0 (s.data.toList.take k) : Nat) ∧ Hid (∀ j, j < k → isDg (by_ s j) = true) ∧ wr = w) (fun _ i _ => n - (intOf i).toNat)
  case atStart => exact ⟨0, by omega, rfl, rfl, hide fun j hj => absurd hj (by omega), rfl⟩
  case round =>
    obtain ⟨k, hk, rfl, rfl, HP, rfl⟩ := hrel
    by_cases hlk : k < n
    · have hks : k < s.size := by omega
      have hx1 : ∀ h : k < s.size, (s[k]'h).toNat = (by_ s k).toNat := fun h => by rw [by_get s h]
      have htk := valD_take (by_some s hks)
      have hlt := valD_lt (s.data.toList.take k) 0 0 (by omega) (fun x hx => by
        have h2 := List.mem_iff_getElem?.1 hx
        obtain ⟨j, hj⟩ := h2
        have hj2 : j < k := by
          rcases Nat.lt_or_ge j k with h | h
          · exact h
          · rw [List.getElem?_eq_none (by rw [List.length_take]; omega)] at hj; cases hj
        rw [List.getElem?_take_of_lt hj2, by_some s (by omega)] at hj
        cases hj
        exact HP.out j hj2)
      obtain ⟨c, ec⟩ : ∃ c, (by_ s k).toNat = c := ⟨_, rfl⟩
      obtain ⟨a, ea⟩ : ∃ a, valD 0 (s.data.toList.take k) = a := ⟨_, rfl⟩
      simp only [ec] at hx1
      rw [ea] at hlt htk ⊢
      have ha : a < 1000000000 := Nat.lt_of_lt_of_le hlt (Nat.le_trans (Nat.pow_le_pow_right (by omega) (show 0 + (s.data.toList.take k).length ≤ 9 by rw [List.length_take]; omega)) (by omega))
      by_cases hd : 48 ≤ c ∧ c ≤ 57
      · have hd1 := hd.1
        have hd2 := hd.2
        have m1 : IntKind.u8.wrap ((c : Int) - 48) = c - 48 := by rw [IntKind.wrap_u8]; omega
        have m2 : IntKind.i64.wrap ((c : Int) - 48) = c - 48 := wr64 _ ⟨by omega, by omega⟩
        have m3 : IntKind.i64.wrap ((a : Int) * 10) = a * 10 := wr64 _ ⟨by omega, by omega⟩
        have m4 : IntKind.i64.wrap ((a : Int) * 10 + (c - 48)) = a * 10 + (c - 48) := wr64 _ ⟨by omega, by omega⟩
        have HPn := hide (show ∀ j, j < k + 1 → isDg (by_ s j) = true from fun j hj => by
          rcases Nat.lt_succ_iff_lt_or_eq.1 hj with h | rfl
          · exact HP.out j h
          · unfold isDg; rw [ec, decide_eq_true_eq]; exact hd)
        have HT := hide (show ((valD 0 (s.data.toList.take (k + 1)) : Nat) : Int) = (a : Int) * 10 + (c - 48) by rw [htk, ec]; omega)
        clear htk ec ea hlt hd
        go_wp2_with fail
        go_roundw
        case rel => exact ⟨k + 1, by omega, by go_num, by rw [HT.out], HPn, trivial⟩
        case measure => simp [intOf] <;> omega
      · have hE := hide (lv_no hks (by unfold isDg; rw [ec]; simp; omega))
        have hd' : c < 48 ∨ 57 < c := by omega
        rcases hd' with hd' | hd'
        · have q1 : (c : Int) < 48 := by omega
          clear htk ec ea hlt hd
          go_wp2_with fail
          go_ret
          exact ⟨by rw [hE.out]; rfl, Below.refl _ _⟩
        · have q1 : ¬ (c : Int) < 48 := by omega
          have q2 : (57 : Int) < c := by omega
          clear htk ec ea hlt hd
          go_wp2_with fail
          go_ret
          exact ⟨by rw [hE.out]; rfl, Below.refl _ _⟩
    · obtain rfl : k = n := by omega
      have hE := hide (lv_yes (s := s) (by omega) (by omega) HZ.out (fun j hj => HP.out j (by omega)))
      rw [List.take_of_length_le (by rw [← Lib.size_eq]; omega)]
      go_wp2_with fail
      go_ret
      exact ⟨by rw [hE.out]; rfl, Below.refl _ _⟩
theorem lv_zero {s : ByteArray} (h1 : 1 < s.size) (hz : by_ s 0 = 48) : lv s = -1 := by
  have hsz : s.size = s.data.toList.length := Lib.size_eq s
  have h2 := by_some s (k := 0) (by omega)
  rw [← List.head?_eq_getElem?, hz] at h2
  unfold lv lvB
  rw [h2, decide_eq_true (show 1 < s.data.toList.length by omega)]
  simp
set_option maxHeartbeats 4000000 in
theorem l01Value_many (w : World) (s : ByteArray) (n : Nat) (hn : s.size = n) (h1 : 1 < n) (h9 : n ≤ 9) : Calls Tryz.prog 46 #[.string s] w (Re w (.int .i64 (lv s))) := by
  have hx0 : ∀ h : 0 < s.size, (s[0]'h).toNat = (by_ s 0).toNat := fun h => by rw [by_get s h]
  have hq : (0 : Nat) < s.size := by omega
  have h0 : ¬ n = 0 := by omega
  have h9' : ¬ (9 : Int) < n := by omega
  have h1' : (1 : Int) < n := by omega
  by_cases hz : by_ s 0 = 48
  · have hE := hide (lv_zero (by omega) hz)
    have e48 : (by_ s 0).toNat = 48 := by rw [hz]; rfl
    simp only [e48] at hx0
    go_enter Tryz.func46, Tryz.ntmps46
    go_wp2_with fail
    go_ret
    exact ⟨by rw [hE.out]; rfl, Below.refl _ _⟩
  · have hb : ¬ (by_ s 0).toNat = 48 := fun h => hz (UInt8.toNat_inj.1 h)
    have HZ := hide (show ¬ (1 < s.size ∧ by_ s 0 = 48) from fun h => hz h.2)
    obtain ⟨x, ex⟩ : ∃ x, (by_ s 0).toNat = x := ⟨_, rfl⟩
    simp only [ex] at hx0
    rw [ex] at hb
    have hb' : ((x : Int) == 48) = false := by rw [beq_eq_false_iff_ne]; omega
    clear hz ex hb
    go_enter Tryz.func46, Tryz.ntmps46
    go_wp2_with fail
    clear hx0 hb'
    go_loopw [3, 4] (fun nv i wr => ∃ k : Nat, k ≤ n ∧ i = .int .i64 k ∧ nv = .int .i64 (valD 0 (s.data.toList.take k) : Nat) ∧ Hid (∀ j, j < k → isDg (by_ s j) = true) ∧ wr = w) (fun _ i _ => n - (intOf i).toNat)
    case atStart => exact ⟨0, by omega, rfl, rfl, hide fun j hj => absurd hj (by omega), rfl⟩
    case round =>
      obtain ⟨k, hk, rfl, rfl, HP, rfl⟩ := hrel
      by_cases hlk : k < n
      · have hks : k < s.size := by omega
        have hx1 : ∀ h : k < s.size, (s[k]'h).toNat = (by_ s k).toNat := fun h => by rw [by_get s h]
        have htk := valD_take (by_some s hks)
        have hlt := valD_lt (s.data.toList.take k) 0 0 (by omega) (fun x hx => by
          have h2 := List.mem_iff_getElem?.1 hx
          obtain ⟨j, hj⟩ := h2
          have hj2 : j < k := by
            rcases Nat.lt_or_ge j k with h | h
            · exact h
            · rw [List.getElem?_eq_none (by rw [List.length_take]; omega)] at hj; cases hj
          rw [List.getElem?_take_of_lt hj2, by_some s (by omega)] at hj
          cases hj
          exact HP.out j hj2)
        obtain ⟨c, ec⟩ : ∃ c, (by_ s k).toNat = c := ⟨_, rfl⟩
        obtain ⟨a, ea⟩ : ∃ a, valD 0 (s.data.toList.take k) = a := ⟨_, rfl⟩
        simp only [ec] at hx1
        rw [ea] at hlt htk ⊢
        have ha : a < 1000000000 := Nat.lt_of_lt_of_le hlt (Nat.le_trans (Nat.pow_le_pow_right (by omega) (show 0 + (s.data.toList.take k).length ≤ 9 by rw [List.length_take]; omega)) (by omega))
        by_cases hd : 48 ≤ c ∧ c ≤ 57
        · have hd1 := hd.1
          have hd2 := hd.2
          have m1 : IntKind.u8.wrap ((c : Int) - 48) = c - 48 := by rw [IntKind.wrap_u8]; omega
          have m2 : IntKind.i64.wrap ((c : Int) - 48) = c - 48 := wr64 _ ⟨by omega, by omega⟩
          have m3 : IntKind.i64.wrap ((a : Int) * 10) = a * 10 := wr64 _ ⟨by omega, by omega⟩
          have m4 : IntKind.i64.wrap ((a : Int) * 10 + (c - 48)) = a * 10 + (c - 48) := wr64 _ ⟨by omega, by omega⟩
          have HPn := hide (show ∀ j, j < k + 1 → isDg (by_ s j) = true from fun j hj => by
            rcases Nat.lt_succ_iff_lt_or_eq.1 hj with h | rfl
            · exact HP.out j h
            · unfold isDg; rw [ec, decide_eq_true_eq]; exact hd)
          have HT := hide (show ((valD 0 (s.data.toList.take (k + 1)) : Nat) : Int) = (a : Int) * 10 + (c - 48) by rw [htk, ec]; omega)
          clear htk ec ea hlt hd
          go_wp2_with fail
          go_roundw
          case rel => exact ⟨k + 1, by omega, by go_num, by rw [HT.out], HPn, trivial⟩
          case measure => simp [intOf] <;> omega
        · have hE := hide (lv_no hks (by unfold isDg; rw [ec]; simp; omega))
          have hd' : c < 48 ∨ 57 < c := by omega
          rcases hd' with hd' | hd'
          · have q1 : (c : Int) < 48 := by omega
            clear htk ec ea hlt hd
            go_wp2_with fail
            go_ret
            exact ⟨by rw [hE.out]; rfl, Below.refl _ _⟩
          · have q1 : ¬ (c : Int) < 48 := by omega
            have q2 : (57 : Int) < c := by omega
            clear htk ec ea hlt hd
            go_wp2_with fail
            go_ret
            exact ⟨by rw [hE.out]; rfl, Below.refl _ _⟩
      · obtain rfl : k = n := by omega
        have hE := hide (lv_yes (s := s) (by omega) (by omega) HZ.out (fun j hj => HP.out j (by omega)))
        rw [List.take_of_length_le (by rw [← Lib.size_eq]; omega)]
        go_wp2_with fail
        go_ret
        exact ⟨by rw [hE.out]; rfl, Below.refl _ _⟩
theorem l01Value_any (w : World) (s : ByteArray) (hs : s.size ≤ 1073741824) : Calls Tryz.prog 46 #[.string s] w (Re w (.int .i64 (lv s))) := by
  by_cases h : s.size = 0 ∨ 9 < s.size
  · exact l01Value_early w s h hs
  · by_cases h1 : s.size = 1
    · exact l01Value_main w s s.size rfl h1
    · exact l01Value_many w s s.size rfl (by omega) (by omega)
end Go.Proofs.YtonehmjoolflfaaGreatDoor
