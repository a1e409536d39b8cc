
/- IsWord of both sides. -/
import Derived.Test.YtlekbkjkkoefnaaDoorMX2
import Derived.Shelf.Strings.SlTrimAscii
import Derived.Ground.NamesProg
import Derived.Shelf.Lay
namespace Go.Proofs.YtlekbkjkkoefnaaDoor
open Go Go.RowKit Go.Shelf
set_option linter.unusedSimpArgs false
set_option linter.unusedVariables false
set_option maxRecDepth 100000
/-- A letter of a word. -/
def isL (x : UInt8) : Bool := x == 115 || x == 116 || x == 83 || x == 84
def wordB (s : ByteArray) : Bool := s.data.toList.all isL && decide (s.size ≤ 60)
/-- Byte k of a text. -/
def sb (s : ByteArray) (k : Nat) : Nat := (s.data.toList.getD k 0).toNat
theorem sb_get (s : ByteArray) {k : Nat} (h : k < s.size) : (s[k]'h).toNat = sb s k := by
  have h' : k < s.data.size := h
  unfold sb
  rw [List.getD_eq_getElem?_getD, Array.getElem?_toList, Array.getElem?_eq_getElem h']
  rfl
theorem sb_lt (s : ByteArray) (k : Nat) : sb s k < 256 := UInt8.toNat_lt _
def isN (x : Nat) : Bool := x == 115 || x == 116 || x == 83 || x == 84
theorem isL_N (x : UInt8) : isL x = isN x.toNat := by
  unfold isL isN
  have e : ∀ y : UInt8, (x == y) = (x.toNat == y.toNat) := fun y => by
    by_cases h : x = y
    · subst h; simp
    · have : x.toNat ≠ y.toNat := fun h2 => h (UInt8.toNat_inj.1 h2)
      rw [beq_eq_false_iff_ne.2 h, beq_eq_false_iff_ne.2 this]
  rw [e 115, e 116, e 83, e 84]; rfl
theorem word_all (s : ByteArray) : s.data.toList.all isL = true ↔ ∀ k, k < s.size → isN (sb s k) = true := by
  have hsz : s.size = s.data.toList.length := Lib.size_eq s
  rw [List.all_eq_true]
  constructor
  · intro h k hk
    have hk' : k < s.data.toList.length := by omega
    have := h _ (List.getElem_mem hk')
    rw [isL_N] at this
    unfold sb
    rw [List.getD_eq_getElem?_getD, List.getElem?_eq_getElem hk']
    exact this
  · intro h x hx
    obtain ⟨k, hk, rfl⟩ := List.getElem_of_mem hx
    have := h k (by omega)
    unfold sb at this
    rw [List.getD_eq_getElem?_getD, List.getElem?_eq_getElem hk] at this
    rw [isL_N]; exact this
set_option maxHeartbeats 2000000 in
theorem l16Is_any (w : World) (s : ByteArray) (hs : s.size ≤ 1048576) : Calls Tryd.prog 53 #[.string s] w (Qt w (.bool (wordB s))) := by
  obtain ⟨n, hn⟩ : ∃ n, s.size = n := ⟨_, rfl⟩
  have HN := hide hn
  have hs' : n ≤ 1048576 := by omega
  have HW := hide (word_all s)
  go_enter Tryd.func53, Tryd.ntmps53
  go_wp2_with fail
  go_loop [3] (fun i => ∃ k : Nat, k ≤ n ∧ i = .int .i64 k ∧ Hid (∀ j, j < k → isN (sb s j) = true)) (fun i => n - (intOf i).toNat)
  case atStart => exact ⟨0, by omega, rfl, hide fun j hj => absurd hj (by omega)⟩
  case round =>
    obtain ⟨k, hk, rfl, hP⟩ := hrel
    by_cases hlt : k < n
    · have hx : ∀ h : k < s.size, (s[k]'h).toNat = sb s k := fun h => sb_get s h
      have hks : k < s.size := by rw [hn]; exact hlt
      obtain ⟨x, ex⟩ : ∃ x, sb s k = x := ⟨_, rfl⟩
      simp only [ex] at hx
      have HX := hide ex
      clear ex
      have xb : ∀ c : Nat, x = c → ((x : Int) == (c : Int)) = true := fun c h => by rw [h]; simp
      have xn : ∀ c : Nat, x ≠ c → ((x : Int) == (c : Int)) = false := fun c h => by rw [beq_eq_false_iff_ne]; omega
      have hnx : isN x = true → Hid (∀ j, j < k + 1 → isN (sb s j) = true) := fun h => hide fun j hj => by
        rcases Nat.lt_succ_iff_lt_or_eq.1 hj with h2 | rfl
        · exact hP.out j h2
        · rw [HX.out]; exact h
      have HNX := hide hnx
      clear hnx
      by_cases h1 : x = 115
      · have b1 := xb 115 h1
        have HQ := hide (HNX.out (by rw [h1]; rfl))
        clear xb xn h1
        go_wp2_with fail
        go_round
        case rel => exact ⟨k + 1, by omega, by go_num, HQ.out⟩
        case measure => simp [intOf] <;> omega
      · have b1 := xn 115 h1
        by_cases h2 : x = 116
        · have b2 := xb 116 h2
          have HQ := hide (HNX.out (by rw [h2]; rfl))
          clear xb xn h1 h2
          go_wp2_with fail
          go_round
          case rel => exact ⟨k + 1, by omega, by go_num, HQ.out⟩
          case measure => simp [intOf] <;> omega
        · have b2 := xn 116 h2
          by_cases h3 : x = 83
          · have b3 := xb 83 h3
            have HQ := hide (HNX.out (by rw [h3]; rfl))
            clear xb xn h1 h2 h3
            go_wp2_with fail
            go_round
            case rel => exact ⟨k + 1, by omega, by go_num, HQ.out⟩
            case measure => simp [intOf] <;> omega
          · have b3 := xn 83 h3
            by_cases h4 : x = 84
            · have b4 := xb 84 h4
              have HQ := hide (HNX.out (by rw [h4]; rfl))
              clear xb xn h1 h2 h3 h4
              go_wp2_with fail
              go_round
              case rel => exact ⟨k + 1, by omega, by go_num, HQ.out⟩
              case measure => simp [intOf] <;> omega
            · have b4 := xn 84 h4
              have hF := hide (show wordB s = false by
                unfold wordB
                rw [Bool.and_eq_false_iff]
                refine .inl (Bool.eq_false_iff.2 fun ha => ?_)
                have := HW.out.1 ha k hks
                rw [HX.out] at this
                unfold isN at this
                simp [h1, h2, h3, h4] at this)
              clear xb xn h1 h2 h3 h4
              go_wp2_with fail
              go_ret
              exact Qt.mk' 0 rfl (bool_eq hF.out.symm)
    · obtain rfl : k = n := by omega
      have hT : s.data.toList.all isL = true := HW.out.2 fun j hj => hP.out j (by omega)
      have hE := hide (show wordB s = decide (k ≤ 60) by unfold wordB; rw [hT, hn]; rfl)
      clear hT
      go_wp2_with fail
      go_ret
      exact Qt.mk' 0 rfl (bool_eq (by rw [hE.out]; simp; omega))
theorem trim_nil {l cs : List UInt8} : Lib.trimS l cs = [] ↔ ∀ x ∈ l, cs.contains x = true := by
  have hdw : ∀ m : List UInt8, m.dropWhile (cs.contains ·) = [] ↔ ∀ x ∈ m, cs.contains x = true := by
    intro m
    induction m with
    | nil => simp
    | cons x r ih =>
      rw [List.dropWhile_cons]
      by_cases h : cs.contains x = true
      · rw [if_pos h, ih]
        constructor
        · intro h2 y hy
          rcases List.mem_cons.1 hy with rfl | hy
          · exact h
          · exact h2 y hy
        · intro h2 y hy
          exact h2 y (by simp [hy])
      · rw [if_neg h]
        constructor
        · intro h2; cases h2
        · intro h2; exact absurd (h2 x (by simp)) h
  unfold Lib.trimS Lib.trimLeftS Lib.trimRightS
  rw [hdw]
  constructor
  · intro h x hx
    by_cases hc : cs.contains x = true
    · exact hc
    · -- x stays behind the trimming at the right end, or an element behind it does
      have h3 : (l.reverse.dropWhile (cs.contains ·)).reverse = [] := by
        by_cases hn : l.reverse.dropWhile (cs.contains ·) = []
        · rw [hn]; rfl
        · have hh := List.head_dropWhile_not (cs.contains ·) hn
          have := h _ (List.mem_reverse.2 (List.head_mem hn))
          rw [this] at hh; cases hh
      have h4 : l.reverse.dropWhile (cs.contains ·) = [] := by simpa using h3
      exact (hdw _).1 h4 x (by simpa using hx)
  · intro h x hx
    have h2 := List.mem_reverse.1 hx
    exact h x (by simpa using List.dropWhile_sublist _ |>.mem h2)
def trimLay_ren : Go.Shelf.Ren := ⟨fun | 160 => 97 | 232 => 121 | 231 => 120 | 227 => 122 | 234 => 124 | 233 => 123 | 236 => 126 | 235 => 125 | 228 => 144 | 271 => 147 | 151 => 146 | 197 => 145 | 120 => 163 | 152 => 162 | 260 => 161 | 137 => 172 | 119 => 173 | 224 => 174 | 225 => 175 | 217 => 177 | 266 => 178 | n => n, fun | 9 => 9 | 4 => 4 | 3 => 3 | 5 => 5 | 117 => 106 | 116 => 105 | 0 => 0 | 124 => 109 | 21 => 21 | 105 => 132 | 46 => 95 | 119 => 163 | 139 => 166 | 138 => 165 | n => n, fun | 3 => 2 | 4 => 3 | n => n⟩
theorem trimLay : Go.Proofs.Lays.n160 Tryd.prog trimLay_ren := {
  mixed := by kernel_rfl
  f119 := Tryd.func173.trans (congrArg some (by kernel_rfl))
  f120 := Tryd.func163.trans (congrArg some (by kernel_rfl))
  f137 := Tryd.func172.trans (congrArg some (by kernel_rfl))
  f151 := Tryd.func146.trans (congrArg some (by kernel_rfl))
  f152 := Tryd.func162.trans (congrArg some (by kernel_rfl))
  f160 := Tryd.func97.trans (congrArg some (by kernel_rfl))
  f197 := Tryd.func145.trans (congrArg some (by kernel_rfl))
  f217 := Tryd.func177.trans (congrArg some (by kernel_rfl))
  f224 := Tryd.func174.trans (congrArg some (by kernel_rfl))
  f225 := Tryd.func175.trans (congrArg some (by kernel_rfl))
  f227 := Tryd.func122.trans (congrArg some (by kernel_rfl))
  f228 := Tryd.func144.trans (congrArg some (by kernel_rfl))
  f231 := Tryd.func120.trans (congrArg some (by kernel_rfl))
  f232 := Tryd.func121.trans (congrArg some (by kernel_rfl))
  f233 := Tryd.func123.trans (congrArg some (by kernel_rfl))
  f234 := Tryd.func124.trans (congrArg some (by kernel_rfl))
  f235 := Tryd.func125.trans (congrArg some (by kernel_rfl))
  f236 := Tryd.func126.trans (congrArg some (by kernel_rfl))
  f260 := Tryd.func161.trans (congrArg some (by kernel_rfl))
  f266 := Tryd.func178.trans (congrArg some (by kernel_rfl))
  f271 := Tryd.func147.trans (congrArg some (by kernel_rfl))
  t0 := Tryd.underlying0
  a0 := Tryd.isAgg0
  z0 := Tryd.sizeOf0
  v0 := Tryd.zeroValue0
  t3 := Tryd.underlying3
  a3 := Tryd.isAgg3
  z3 := Tryd.sizeOf3
  v3 := Tryd.zeroValue3
  t4 := Tryd.underlying4
  a4 := Tryd.isAgg4
  z4 := Tryd.sizeOf4
  v4 := Tryd.zeroValue4
  t5 := Tryd.underlying5
  a5 := Tryd.isAgg5
  z5 := Tryd.sizeOf5
  v5 := Tryd.zeroValue5
  t9 := Tryd.underlying9
  a9 := Tryd.isAgg9
  z9 := Tryd.sizeOf9
  v9 := Tryd.zeroValue9
  t21 := Tryd.underlying21
  a21 := Tryd.isAgg21
  z21 := Tryd.sizeOf21
  v21 := Tryd.zeroValue21
  t46 := Tryd.underlying95
  a46 := Tryd.isAgg95
  z46 := Tryd.sizeOf95
  v46 := Tryd.zeroValue95
  t105 := Tryd.underlying132
  a105 := Tryd.isAgg132
  z105 := Tryd.sizeOf132
  v105 := Tryd.zeroValue132
  t116 := Tryd.underlying105
  a116 := Tryd.isAgg105
  z116 := Tryd.sizeOf105
  t117 := Tryd.underlying106
  a117 := Tryd.isAgg106
  z117 := Tryd.sizeOf106
  v117 := Tryd.zeroValue106
  t119 := Tryd.underlying163
  a119 := Tryd.isAgg163
  z119 := Tryd.sizeOf163
  t124 := Tryd.underlying109
  a124 := Tryd.isAgg109
  z124 := Tryd.sizeOf109
  v124 := Tryd.zeroValue109
  t138 := Tryd.underlying165
  a138 := Tryd.isAgg165
  z138 := Tryd.sizeOf165
  v138 := Tryd.zeroValue165
  t139 := Tryd.underlying166
  a139 := Tryd.isAgg166
  z139 := Tryd.sizeOf166
  v139 := Tryd.zeroValue166
  g3 := by kernel_rfl
  g4 := by kernel_rfl }
theorem trim_any (w : World) (s cut : ByteArray) (hs : s.size ≤ 1048576) (hc : cut.size < 100) (hascii : ∀ (j : Nat) b, cut.data.toList[j]? = some b → b.toNat < 128) :
    Calls Tryd.prog 97 #[.string s, .string cut] w fun e w' => e = .returned (.string ⟨(Lib.trimS s.data.toList cut.data.toList).toArray⟩) ∧ Below w.heap.size w w' :=
  Any.strings_Trim_laid trimLay (by kernel_rfl) s cut w (by omega) (by omega) hascii
set_option maxHeartbeats 2000000 in
theorem isWord_any (w : World) (s : ByteArray) (hs : s.size ≤ 1048576) : Calls Tryd.prog 55 #[.string s] w (Re w (.bool (wordB s))) := by
  obtain ⟨n, hn⟩ : ∃ n, s.size = n := ⟨_, rfl⟩
  by_cases h60 : n ≤ 60
  · go_enter Tryd.func55, Tryd.ntmps55
    go_wp2_with fail
    refine (trim_any w s ⟨#[115, 116, 83, 84]⟩ hs (by decide) (ascii_of_all (by decide))).mono ?_
    rintro e w' ⟨rfl, hb⟩
    have hT := hide (show wordB s = (Lib.trimS s.data.toList [115, 116, 83, 84]).isEmpty by
      unfold wordB
      rw [hn, decide_eq_true h60, Bool.and_true]
      refine Bool.eq_iff_iff.2 ?_
      rw [List.isEmpty_iff, trim_nil, List.all_eq_true]
      refine forall_congr' fun x => forall_congr' fun _ => ?_
      unfold isL
      simp [or_assoc])
    go_wp2_with fail
    go_ret
    exact ⟨by rw [hT.out]; rfl, hb⟩
  · have hF := hide (show wordB s = false by unfold wordB; rw [hn]; simp [h60])
    have h6 : ¬ (n : Int) ≤ 60 := by omega
    go_enter Tryd.func55, Tryd.ntmps55
    go_wp2_with fail
    go_ret
    exact ⟨bool_eq hF.out.symm ▸ rfl, Below.refl _ _⟩
end Go.Proofs.YtlekbkjkkoefnaaDoor
