
/- ParseMetric's parts: readDecimal, readIntegers (seat with strconv.ParseInt). -/
import Derived.Test.YtkhkejdkakmiiaaGreatDoorPM1
import Derived.Shelf.Strconv.ErrVarParseInt
import Derived.Shelf.Strings.Cut
import Derived.Shelf.Strings.Split
namespace Go.Proofs.YtkhkejdkakmiiaaGreatDoor
open Go Go.RowKit Go.Shelf
set_option linter.unusedSimpArgs false
set_option linter.unusedVariables false
set_option maxRecDepth 100000
/-- What of the library's own variables is asked. -/
structure TbZ (w : World) : Prop where
  p : TbP w
  m : ∃ m, w.cell? ⟨0, 0, none⟩ = some (.int .i64 m)
  s : ∃ t q, w.cell? ⟨1, 0, none⟩ = some (.iface t q)
  r : ∃ t q, w.cell? ⟨2, 0, none⟩ = some (.iface t q)
theorem TbZ.bel {w w' : World} (h : TbZ w) (hb : Below w.heap.size w w') : TbZ w' := by
  obtain ⟨h1, ⟨m, h2⟩, ⟨t, q, h3⟩, ⟨t', q', h4⟩⟩ := h
  refine ⟨h1.bel hb, ⟨m, ?_⟩, ⟨t, q, ?_⟩, ⟨t', q', ?_⟩⟩
  · rw [hb.cell (World.block_lt_of_cell? _ _ h2)]; exact h2
  · rw [hb.cell (World.block_lt_of_cell? _ _ h3)]; exact h3
  · rw [hb.cell (World.block_lt_of_cell? _ _ h4)]; exact h4
theorem parse_ok64 {l : List UInt8} {v : Int} (h : Lib.parseIntB 64 l = .ok v) : i64ok v := by
  unfold Lib.parseIntB at h
  split at h
  · cases h
  · simp only at h
    split at h
    · cases h
    · cases h
    · rename_i u _
      split at h
      · cases h
      · rename_i h1
        split at h
        · cases h
        · rename_i h2
          injection h with h
          subst h
          split
          · rename_i hn
            have : ¬ 2 ^ (64 - 1) < u := fun h3 => h2 ⟨hn, h3⟩
            exact ⟨by omega, by omega⟩
          · rename_i hn
            have : ¬ 2 ^ (64 - 1) ≤ u := fun h3 => h1 ⟨hn, h3⟩
            exact ⟨by omega, by omega⟩
/-- What readDecimal returns. -/
def rdV (s : ByteArray) : Int := match Lib.parseIntB 64 s.data.toList with
  | .ok v => v
  | .«syntax» => 0
  | .range => Lib.intSat 64 s.data.toList
def rdB (s : ByteArray) : Bool := match Lib.parseIntB 64 s.data.toList with
  | .ok v => (dec v).toList == s.toList
  | .«syntax» => false
  | .range => false
shelf_lay LaysC.n174 Nm 174 at Tryz as parseLay
set_option maxHeartbeats 4000000 in
theorem readDecimal_any (w : World) (s : ByteArray) (hs : s.size ≤ 1048576) (hT : TbZ w) : Calls Tryz.prog 16 #[.string s] w (Re w (.tuple #[.int .i64 (rdV s), .bool (rdB s)])) := by
  cases hp : Lib.parseIntB 64 s.data.toList with
  | ok v =>
    have hv := parse_ok64 hp
    have HV := hide (show rdV s = v by unfold rdV; rw [hp])
    have HB := hide (show rdB s = ((dec v).toList == s.toList) by unfold rdB; rw [hp])
    have hP := Any.strconv_ParseInt_10_at64_ok parseLay s (by omega) v hp w
    go_enter Tryz.func16, Tryz.ntmps16
    go_wp2_with fail
    refine hP.mono ?_
    rintro e w1 ⟨rfl, hw1⟩
    have hb1 : Below w.heap.size w w1 := by
      rcases hw1 with rfl | ⟨t, rfl⟩
      · exact Below.refl _ _
      · exact ⟨rfl, rfl, rfl, by rw [Lib.bytesWorld_size]; omega, fun k hk => Lib.bytesWorld_at_old w _ t k (by omega)⟩
    clear hw1 hP
    go_wp2_with fail
    refine (decimal_any _ v hv (hT.bel hb1).p).mono ?_
    rintro e w2 ⟨rfl, hb2⟩
    have hb3 := hb1.trans (hb2.mono hb1.size)
    go_wp2_with fail
    refine bodyPost_ret (v := .tuple #[.int .i64 v, .bool ((dec v).toList == s.toList)]) (by simp [results, Tryz.results16, go_sem]) rfl ?_
    exact ⟨by rw [HV.out, HB.out], hb3⟩
  | «syntax» =>
    have HV := hide (show rdV s = 0 by unfold rdV; rw [hp])
    have HB := hide (show rdB s = false by unfold rdB; rw [hp])
    obtain ⟨tp, q, hc⟩ := hT.s
    have hP := Any.strconv_ParseInt_10_at64_syntax parseLay s (by omega) hp (.iface tp q) w (by exact hc) (Or.inr ⟨tp, q, rfl⟩)
    go_enter Tryz.func16, Tryz.ntmps16
    go_wp2_with fail
    refine hP.mono ?_
    rintro e w1 ⟨N, rfl, _, _, hb1⟩
    clear hP
    go_wp2_with fail
    refine bodyPost_ret (v := .tuple #[.int .i64 0, .bool false]) (by simp [results, Tryz.results16, go_sem]) rfl ?_
    exact ⟨by rw [HV.out, HB.out], hb1⟩
  | range =>
    have HV := hide (show rdV s = Lib.intSat 64 s.data.toList by unfold rdV; rw [hp])
    have HB := hide (show rdB s = false by unfold rdB; rw [hp])
    obtain ⟨tp, q, hc⟩ := hT.r
    have hP := Any.strconv_ParseInt_10_at64_range parseLay s (by omega) hp (.iface tp q) w (by exact hc) (Or.inr ⟨tp, q, rfl⟩)
    obtain ⟨z, hz⟩ : ∃ z, Lib.intSat 64 s.data.toList = z := ⟨_, rfl⟩
    rw [hz] at hP HV
    go_enter Tryz.func16, Tryz.ntmps16
    go_wp2_with fail
    refine hP.mono ?_
    rintro e w1 ⟨N, rfl, _, _, hb1⟩
    clear hP
    go_wp2_with fail
    refine bodyPost_ret (v := .tuple #[.int .i64 z, .bool false]) (by simp [results, Tryz.results16, go_sem]) rfl ?_
    exact ⟨by rw [HV.out, HB.out], hb1⟩
end Go.Proofs.YtkhkejdkakmiiaaGreatDoor
