
/- ParseMetric's parts: readDecimal, readIntegers (seat with strconv.ParseInt). -/
import Derived.Test.YtkhkejdkakmiiaaGreatDoorPM1
import Derived.Shelf.Strconv.ErrVarParseInt
import Derived.Shelf.Strings.Cut
import Derived.Shelf.Strings.Split
namespace Go.Proofs.YtkhkejdkakmiiaaGreatDoor
open Go Go.RowKit Go.Shelf
set_option linter.unusedSimpArgs false
set_option linter.unusedVariables false
set_option maxRecDepth 100000
/-- What of the library's own variables is asked. -/
structure TbZ (w : World) : Prop where
  p : TbP w
  m : ∃ m, w.cell? ⟨0, 0, none⟩ = some (.int .i64 m)
  s : ∃ t q, w.cell? ⟨1, 0, none⟩ = some (.iface t q)
  r : ∃ t q, w.cell? ⟨2, 0, none⟩ = some (.iface t q)
theorem TbZ.bel {w w' : World} (h : TbZ w) (hb : Below w.heap.size w w') : TbZ w' := by
  obtain ⟨h1, ⟨m, h2⟩, ⟨t, q, h3⟩, ⟨t', q', h4⟩⟩ := h
  refine ⟨h1.bel hb, ⟨m, ?_⟩, ⟨t, q, ?_⟩, ⟨t', q', ?_⟩⟩
  · rw [hb.cell (World.block_lt_of_cell? _ _ h2)]; exact h2
  · rw [hb.cell (World.block_lt_of_cell? _ _ h3)]; exact h3
  · rw [hb.cell (World.block_lt_of_cell? _ _ h4)]; exact h4
theorem parse_ok64 {l : List UInt8} {v : Int} (h : Lib.parseIntB 64 l = .ok v) : i64ok v := by
  unfold Lib.parseIntB at h
  split at h
  · cases h
  · simp only at h
    split at h
    · cases h
    · cases h
    · rename_i u _
      split at h
      · cases h
      · rename_i h1
        split at h
        · cases h
        · rename_i h2
          injection h with h
          subst h
          split
          · rename_i hn
            have : ¬ 2 ^ (64 - 1) < u := fun h3 => h2 ⟨hn, h3⟩
            exact ⟨by omega, by omega⟩
          · rename_i hn
            have : ¬ 2 ^ (64 - 1) ≤ u := fun h3 => h1 ⟨hn, h3⟩
            exact ⟨by omega, by omega⟩
/-- What readDecimal returns. -/
def rdV (s : ByteArray) : Int := match Lib.parseIntB 64 s.data.toList with
  | .ok v => v
  | .range => Lib.intSat 64 s.data.toList
  | _ => 0
def rdB (s : ByteArray) : Bool := match Lib.parseIntB 64 s.data.toList with
  | .ok v => (dec v).toList == s.toList
  | _ => false
def parseLay_ren : Go.Shelf.Ren := ⟨fun | 174 => 33 | 247 => 49 | 245 => 50 | 287 => 67 | 279 => 68 | 280 => 69 | 281 => 70 | 282 => 71 | 321 => 83 | 322 => 84 | 316 => 85 | 171 => 87 | 205 => 86 | 243 => 96 | 246 => 72 | 283 => 88 | 284 => 89 | 285 => 90 | 286 => 91 | 129 => 98 | 317 => 97 | 318 => 99 | 319 => 100 | 320 => 101 | 337 => 105 | 338 => 106 | n => n, fun | 9 => 9 | 3 => 3 | 2 => 2 | 75 => 55 | 85 => 56 | 4 => 4 | 167 => 78 | 5 => 5 | 53 => 79 | 175 => 80 | 46 => 76 | 168 => 82 | 37 => 65 | 0 => 0 | 210 => 102 | 21 => 21 | 127 => 113 | 145 => 116 | 143 => 114 | 171 => 105 | 173 => 108 | 212 => 118 | 51 => 93 | 20 => 20 | 213 => 119 | 232 => 131 | 233 => 132 | 80 => 92 | n => n, fun | 15 => 1 | 16 => 2 | 17 => 3 | 18 => 6 | 19 => 7 | n => n⟩
theorem parseLay : Go.Proofs.LaysC.n174 Tryz.prog parseLay_ren := {
  mixed := by kernel_rfl
  f129 := Tryz.func98.trans (congrArg some (by kernel_rfl))
  f171 := Tryz.func87.trans (congrArg some (by kernel_rfl))
  f174 := Tryz.func33.trans (congrArg some (by kernel_rfl))
  f205 := Tryz.func86.trans (congrArg some (by kernel_rfl))
  f243 := Tryz.func96.trans (congrArg some (by kernel_rfl))
  f245 := Tryz.func50.trans (congrArg some (by kernel_rfl))
  f246 := Tryz.func72.trans (congrArg some (by kernel_rfl))
  f247 := Tryz.func49.trans (congrArg some (by kernel_rfl))
  f279 := Tryz.func68.trans (congrArg some (by kernel_rfl))
  f280 := Tryz.func69.trans (congrArg some (by kernel_rfl))
  f281 := Tryz.func70.trans (congrArg some (by kernel_rfl))
  f282 := Tryz.func71.trans (congrArg some (by kernel_rfl))
  f283 := Tryz.func88.trans (congrArg some (by kernel_rfl))
  f284 := Tryz.func89.trans (congrArg some (by kernel_rfl))
  f285 := Tryz.func90.trans (congrArg some (by kernel_rfl))
  f286 := Tryz.func91.trans (congrArg some (by kernel_rfl))
  f287 := Tryz.func67.trans (congrArg some (by kernel_rfl))
  f316 := Tryz.func85.trans (congrArg some (by kernel_rfl))
  f317 := Tryz.func97.trans (congrArg some (by kernel_rfl))
  f318 := Tryz.func99.trans (congrArg some (by kernel_rfl))
  f319 := Tryz.func100.trans (congrArg some (by kernel_rfl))
  f320 := Tryz.func101.trans (congrArg some (by kernel_rfl))
  f321 := Tryz.func83.trans (congrArg some (by kernel_rfl))
  f322 := Tryz.func84.trans (congrArg some (by kernel_rfl))
  f337 := Tryz.func105.trans (congrArg some (by kernel_rfl))
  f338 := Tryz.func106.trans (congrArg some (by kernel_rfl))
  t0 := Tryz.underlying0
  a0 := Tryz.isAgg0
  z0 := Tryz.sizeOf0
  v0 := Tryz.zeroValue0
  t2 := Tryz.underlying2
  a2 := Tryz.isAgg2
  z2 := Tryz.sizeOf2
  v2 := Tryz.zeroValue2
  t3 := Tryz.underlying3
  a3 := Tryz.isAgg3
  z3 := Tryz.sizeOf3
  v3 := Tryz.zeroValue3
  t4 := Tryz.underlying4
  a4 := Tryz.isAgg4
  z4 := Tryz.sizeOf4
  v4 := Tryz.zeroValue4
  t5 := Tryz.underlying5
  a5 := Tryz.isAgg5
  z5 := Tryz.sizeOf5
  v5 := Tryz.zeroValue5
  t9 := Tryz.underlying9
  a9 := Tryz.isAgg9
  z9 := Tryz.sizeOf9
  v9 := Tryz.zeroValue9
  t20 := Tryz.underlying20
  a20 := Tryz.isAgg20
  z20 := Tryz.sizeOf20
  v20 := Tryz.zeroValue20
  t21 := Tryz.underlying21
  a21 := Tryz.isAgg21
  z21 := Tryz.sizeOf21
  v21 := Tryz.zeroValue21
  t37 := Tryz.underlying65
  a37 := Tryz.isAgg65
  z37 := Tryz.sizeOf65
  v37 := Tryz.zeroValue65
  t46 := Tryz.underlying76
  a46 := Tryz.isAgg76
  z46 := Tryz.sizeOf76
  v46 := Tryz.zeroValue76
  t51 := Tryz.underlying93
  a51 := Tryz.isAgg93
  z51 := Tryz.sizeOf93
  v51 := Tryz.zeroValue93
  t53 := Tryz.underlying79
  a53 := Tryz.isAgg79
  z53 := Tryz.sizeOf79
  v53 := Tryz.zeroValue79
  t75 := Tryz.underlying55
  a75 := Tryz.isAgg55
  z75 := Tryz.sizeOf55
  v75 := Tryz.zeroValue55
  t85 := Tryz.underlying56
  a85 := Tryz.isAgg56
  z85 := Tryz.sizeOf56
  v85 := Tryz.zeroValue56
  t127 := Tryz.underlying113
  a127 := Tryz.isAgg113
  z127 := Tryz.sizeOf113
  v127 := Tryz.zeroValue113
  t143 := Tryz.underlying114
  a143 := Tryz.isAgg114
  z143 := Tryz.sizeOf114
  v143 := Tryz.zeroValue114
  t145 := Tryz.underlying116
  a145 := Tryz.isAgg116
  z145 := Tryz.sizeOf116
  v145 := Tryz.zeroValue116
  t167 := Tryz.underlying78
  a167 := Tryz.isAgg78
  z167 := Tryz.sizeOf78
  v167 := Tryz.zeroValue78
  t168 := Tryz.underlying82
  a168 := Tryz.isAgg82
  z168 := Tryz.sizeOf82
  v168 := Tryz.zeroValue82
  t171 := Tryz.underlying105
  a171 := Tryz.isAgg105
  z171 := Tryz.sizeOf105
  v171 := Tryz.zeroValue105
  t173 := Tryz.underlying108
  a173 := Tryz.isAgg108
  z173 := Tryz.sizeOf108
  v173 := Tryz.zeroValue108
  t175 := Tryz.underlying80
  a175 := Tryz.isAgg80
  z175 := Tryz.sizeOf80
  v175 := Tryz.zeroValue80
  t210 := Tryz.underlying102
  a210 := Tryz.isAgg102
  z210 := Tryz.sizeOf102
  v210 := Tryz.zeroValue102
  t212 := Tryz.underlying118
  a212 := Tryz.isAgg118
  z212 := Tryz.sizeOf118
  v212 := Tryz.zeroValue118
  t213 := Tryz.underlying119
  a213 := Tryz.isAgg119
  z213 := Tryz.sizeOf119
  t232 := Tryz.underlying131
  a232 := Tryz.isAgg131
  z232 := Tryz.sizeOf131
  v232 := Tryz.zeroValue131
  t233 := Tryz.underlying132
  a233 := Tryz.isAgg132
  z233 := Tryz.sizeOf132
  v233 := Tryz.zeroValue132
  g15 := by kernel_rfl
  g16 := by kernel_rfl
  g17 := by kernel_rfl
  g18 := by kernel_rfl
  g19 := by kernel_rfl
  t80 := Tryz.underlying92
  a80 := Tryz.isAgg92
  z80 := Tryz.sizeOf92
  v80 := Tryz.zeroValue92
  i0 := by kernel_rfl
  i2 := by kernel_rfl
  i3 := by kernel_rfl
  i4 := by kernel_rfl
  i5 := by kernel_rfl
  i9 := by kernel_rfl
  i20 := by kernel_rfl
  i21 := by kernel_rfl
  i37 := by kernel_rfl
  i46 := by kernel_rfl
  i51 := by kernel_rfl
  i53 := by kernel_rfl
  i75 := by kernel_rfl
  i80 := by kernel_rfl
  i85 := by kernel_rfl
  i127 := by kernel_rfl
  i143 := by kernel_rfl
  i145 := by kernel_rfl
  i167 := by kernel_rfl
  i168 := by kernel_rfl
  i171 := by kernel_rfl
  i173 := by kernel_rfl
  i175 := by kernel_rfl
  i210 := by kernel_rfl
  i212 := by kernel_rfl
  i232 := by kernel_rfl
  i233 := by kernel_rfl
  m15 := by kernel_rfl
  m16 := by kernel_rfl
  m17 := by kernel_rfl
  m18 := by kernel_rfl
  m19 := by kernel_rfl
  c0 := by kernel_rfl
  c2 := by kernel_rfl
  c3 := by kernel_rfl
  c4 := by kernel_rfl
  c5 := by kernel_rfl
  c9 := by kernel_rfl
  c20 := by kernel_rfl
  c21 := by kernel_rfl
  c37 := by kernel_rfl
  c46 := by kernel_rfl
  c51 := by kernel_rfl
  c53 := by kernel_rfl
  c75 := by kernel_rfl
  c80 := by kernel_rfl
  c85 := by kernel_rfl
  c127 := by kernel_rfl
  c143 := by kernel_rfl
  c145 := by kernel_rfl
  c167 := by kernel_rfl
  c168 := by kernel_rfl
  c171 := by kernel_rfl
  c173 := by kernel_rfl
  c175 := by kernel_rfl
  c210 := by kernel_rfl
  c212 := by kernel_rfl
  c213 := by kernel_rfl
  c232 := by kernel_rfl
  c233 := by kernel_rfl }
set_option maxHeartbeats 4000000 in
theorem readDecimal_any (w : World) (s : ByteArray) (hs : s.size ≤ 1048576) (hT : TbZ w) : Calls Tryz.prog 16 #[.string s] w (Re w (.tuple #[.int .i64 (rdV s), .bool (rdB s)])) := by
  cases hp : Lib.parseIntB 64 s.data.toList with
  | ok v =>
    have hv := parse_ok64 hp
    have HV := hide (show rdV s = v by unfold rdV; rw [hp])
    have HB := hide (show rdB s = ((dec v).toList == s.toList) by unfold rdB; rw [hp])
    have hP := Any.strconv_ParseInt_10_at64_ok parseLay s (by omega) v hp w
    go_enter Tryz.func16, Tryz.ntmps16
    go_wp2_with fail
    refine hP.mono ?_
    rintro e w1 ⟨rfl, hw1⟩
    have hb1 : Below w.heap.size w w1 := by
      rcases hw1 with rfl | ⟨t, rfl⟩
      · exact Below.refl _ _
      · exact ⟨rfl, rfl, rfl, by rw [Lib.bytesWorld_size]; omega, fun k hk => Lib.bytesWorld_at_old w _ t k (by omega)⟩
    clear hw1 hP
    go_wp2_with fail
    refine (decimal_any _ v hv (hT.bel hb1).p).mono ?_
    rintro e w2 ⟨rfl, hb2⟩
    have hb3 := hb1.trans (hb2.mono hb1.size)
    go_wp2_with fail
    refine bodyPost_ret (v := .tuple #[.int .i64 v, .bool ((dec v).toList == s.toList)]) (by simp [results, Tryz.results16, go_sem]) rfl ?_
    exact ⟨by rw [HV.out, HB.out], hb3⟩
  | range =>
    have HV := hide (show rdV s = Lib.intSat 64 s.data.toList by unfold rdV; rw [hp])
    have HB := hide (show rdB s = false by unfold rdB; rw [hp])
    obtain ⟨tp, q, hc⟩ := hT.r
    have hP := Any.strconv_ParseInt_10_at64_range parseLay s (by omega) hp (.iface tp q) w (by exact hc) (Or.inr ⟨tp, q, rfl⟩)
    obtain ⟨z, hz⟩ : ∃ z, Lib.intSat 64 s.data.toList = z := ⟨_, rfl⟩
    rw [hz] at hP HV
    go_enter Tryz.func16, Tryz.ntmps16
    go_wp2_with fail
    refine hP.mono ?_
    rintro e w1 ⟨N, rfl, _, _, hb1⟩
    clear hP
    go_wp2_with fail
    refine bodyPost_ret (v := .tuple #[.int .i64 z, .bool false]) (by simp [results, Tryz.results16, go_sem]) rfl ?_
    exact ⟨by rw [HV.out, HB.out], hb1⟩
  | _ =>
    have HV := hide (show rdV s = 0 by unfold rdV; rw [hp])
    have HB := hide (show rdB s = false by unfold rdB; rw [hp])
    obtain ⟨tp, q, hc⟩ := hT.s
    have hP := Any.strconv_ParseInt_10_at64_syntax parseLay s (by omega) hp (.iface tp q) w (by exact hc) (Or.inr ⟨tp, q, rfl⟩)
    go_enter Tryz.func16, Tryz.ntmps16
    go_wp2_with fail
    refine hP.mono ?_
    rintro e w1 ⟨N, rfl, _, _, hb1⟩
    clear hP
    go_wp2_with fail
    refine bodyPost_ret (v := .tuple #[.int .i64 0, .bool false]) (by simp [results, Tryz.results16, go_sem]) rfl ?_
    exact ⟨by rw [HV.out, HB.out], hb1⟩
end Go.Proofs.YtkhkejdkakmiiaaGreatDoor
