
/- The reference's l01Split, plain part. The walk of l01Split. The walk of l10Numbers. What ParseMetric returns, plain: both readings of a text agree. -/
import Derived.Test.YtonehmjoolflfaaGreatDoorPMa
import Derived.Test.YtonehmjoolflfaaGreatDoorEa
import Derived.Test.YtonehmjoolflfaaGreatDoorKM
namespace Go.Proofs.YtonehmjoolflfaaGreatDoor
open Go Go.RowKit Go.Shelf Grp
set_option linter.unusedSimpArgs false
set_option linter.unusedVariables false
set_option maxRecDepth 100000
/-- The parts of a text between the bytes b. -/
def consH (w : List UInt8) : List (List UInt8) → List (List UInt8)
  | [] => [w]
  | x :: r => (w ++ x) :: r
def spl (b : UInt8) : List UInt8 → List (List UInt8)
  | [] => [[]]
  | x :: r => if x = b then [] :: spl b r else consH [x] (spl b r)
theorem consH_nil (xs : List (List UInt8)) (h : xs ≠ []) : consH [] xs = xs := by
  cases xs with
  | nil => exact absurd rfl h
  | cons x r => rfl
theorem consH_app (v w : List UInt8) (xs : List (List UInt8)) : consH v (consH w xs) = consH (v ++ w) xs := by
  cases xs <;> simp [consH]
theorem spl_ne (b : UInt8) (l : List UInt8) : spl b l ≠ [] := by
  cases l with
  | nil => simp [spl]
  | cons x r =>
    unfold spl
    split
    · simp
    · cases spl b r <;> simp [consH]
theorem spl_word (b : UInt8) (w : List UInt8) (h : b ∉ w) : spl b w = [w] := by
  induction w with
  | nil => rfl
  | cons x r ih =>
    have hx : x ≠ b := fun e => h (by simp [e])
    unfold spl
    rw [if_neg hx, ih fun e => h (by simp [e])]
    rfl
theorem spl_cut (b : UInt8) (w rest : List UInt8) (h : b ∉ w) : spl b (w ++ b :: rest) = w :: spl b rest := by
  induction w with
  | nil => simp [spl]
  | cons x r ih =>
    have hx : x ≠ b := fun e => h (by simp [e])
    have e1 : spl b (x :: r ++ b :: rest) = consH [x] (spl b (r ++ b :: rest)) := by
      rw [List.cons_append, spl, if_neg hx]
    rw [e1, ih fun e => h (by simp [e])]
    rfl
theorem spl_join (b : UInt8) : ∀ ws : List (List UInt8), ws ≠ [] → (∀ w ∈ ws, b ∉ w) → spl b (Lib.join ws [b]) = ws := by
  intro ws
  induction ws with
  | nil => intro h; exact absurd rfl h
  | cons w r ih =>
    intro _ h
    have hw := h w (by simp)
    cases r with
    | nil => rw [Lib.join_one]; exact spl_word b w hw
    | cons z r =>
      have hj : Lib.join (w :: z :: r) [b] = w ++ b :: Lib.join (z :: r) [b] := by simp [Lib.join, List.intercalate]
      rw [hj, spl_cut b w _ hw, ih (by simp) fun x hx => h x (by simp [hx])]
theorem spl_step_eq {b : UInt8} {l : List UInt8} {k : Nat} (h : l[k]? = some b) : spl b (l.drop k) = [] :: spl b (l.drop (k + 1)) := by
  obtain ⟨h1, h2⟩ := List.getElem?_eq_some_iff.1 h
  rw [List.drop_eq_getElem_cons h1, h2, spl, if_pos rfl]
theorem spl_step_ne {b x : UInt8} {l : List UInt8} {k : Nat} (h : l[k]? = some x) (hx : x ≠ b) : spl b (l.drop k) = consH [x] (spl b (l.drop (k + 1))) := by
  obtain ⟨h1, h2⟩ := List.getElem?_eq_some_iff.1 h
  rw [List.drop_eq_getElem_cons h1, h2, spl, if_neg hx]
theorem ext_data (s : ByteArray) (a k : Nat) : (s.extract a k).data.toList = (s.data.toList.drop a).take (k - a) := by
  simp [ByteArray.data_extract, List.extract_eq_take_drop]
/-- It returned a row of texts. -/
def MkW (w : World) (ls : List (List UInt8)) (n : Nat) (e : Ending) (w' : World) : Prop := ∃ (v : Value) (ws : List ByteArray), e = .returned v ∧ OwV w' w.heap.size 9 v (ws.map Value.string) ∧ ws.map (fun x => x.data.toList) = ls ∧ (∀ x ∈ ws, x.size ≤ n) ∧ Below w.heap.size w w'
set_option maxHeartbeats 4000000 in
theorem l01Split_any (w : World) (s : ByteArray) (b : UInt8) (hs : s.size ≤ 1073741824) : Calls Tryz.prog 44 #[.string s, .int .u8 b.toNat] w (MkW w (spl b s.data.toList) s.size) := by
  obtain ⟨n, hn⟩ : ∃ n, s.size = n := ⟨_, rfl⟩
  have HN := hide hn
  have hs' : n ≤ 1073741824 := by omega
  have hO0 : OwV (w.alloc (.cells #[] 9)) w.heap.size 9 (.slice (some ⟨w.heap.size, 0, none⟩) 0 0) (([] : List ByteArray).map Value.string) := OwV.made w _ _ rfl (Nat.le_refl _)
  have hb0 : Below w.heap.size w (w.alloc (.cells #[] 9)) := (Below.refl _ _).alloc (Nat.le_refl _) _
  go_enter Tryz.func44, Tryz.ntmps44
  go_wp2_with fail
  go_loopw [5, 6, 7] (fun ov av i wr => ∃ (k a : Nat) (P : List ByteArray), k ≤ n ∧ a ≤ k ∧ i = .int .i64 k ∧ av = .int .i64 a ∧ P.length ≤ k ∧ (∀ x ∈ P, x.size ≤ n) ∧ Hid (spl b s.data.toList = P.map (fun x => x.data.toList) ++ consH ((s.data.toList.drop a).take (k - a)) (spl b (s.data.toList.drop k))) ∧ OwV wr w.heap.size 9 ov (P.map Value.string) ∧ Below w.heap.size w wr) (fun _ _ i _ => n - (intOf i).toNat)
  case atStart => exact ⟨0, 0, [], by omega, by omega, rfl, rfl, by simp, by simp, hide (by simp [consH_nil _ (spl_ne b _)]), hO0, hb0⟩
  case round =>
    clear hO0 hb0
    obtain ⟨k, a, P, hk, ha, rfl, rfl, hPl, hPs, HS, hO, hBe⟩ := hrel
    have hsz := hBe.size
    by_cases hlk : k < n
    · have hks : k < s.size := by omega
      have hx1 : ∀ h : k < s.size, (s[k]'h).toNat = (by_ s k).toNat := fun h => by rw [by_get s h]
      have hg := by_some s hks
      by_cases hxb : by_ s k = b
      · have heq : (((by_ s k).toNat : Int) == (b.toNat : Int)) = true := by rw [hxb]; simp
        have hlP : (P.map Value.string).length = P.length := by simp
        go_wp2_with (at_builtin; refine list_pushV 69 9 _ 16 (by kernel_rfl) str_info (by omega) rfl _ rfl _ _ rfl w.heap.size _ _ rfl (hO.alloc _) (.string (s.extract a k)) rfl wr.heap.size _ rfl (Blk.new _ _ _) (by rw [hlP]; omega) (by simp; omega) (by simp) ?_; intro g cap w8 hP)
        obtain ⟨p1, p2, p3, p4⟩ := hP
        have hB8 := (hBe.alloc hsz (.cells #[.string (s.extract a k)] 9)).grown p2 (by simp; omega) (fun q hq => (hO.lt q hq).1)
        have hP2 : P.map Value.string ++ [.string (s.extract a k)] = (P ++ [s.extract a k]).map Value.string := by simp
        rw [hP2, hlP] at p1
        have HP1 := hide p1
        have hg2 : s.data.toList[k]? = some b := by rw [hg, hxb]
        have HS2 := hide (show spl b s.data.toList = (P ++ [s.extract a k]).map (fun x => x.data.toList) ++ consH ((s.data.toList.drop (k + 1)).take (k + 1 - (k + 1))) (spl b (s.data.toList.drop (k + 1))) by
          rw [HS.out, spl_step_eq hg2, Nat.sub_self, List.take_zero, consH_nil _ (spl_ne b _)]
          simp only [consH, List.append_nil, List.map_append, List.map_cons, List.map_nil, ext_data, List.append_assoc, List.cons_append, List.nil_append])
        have hsx : (s.extract a k).size ≤ n := by rw [ByteArray.size_extract]; omega
        clear p1 p2 p3 p4 hO hg hg2 hP2
        go_roundw
        case rel => exact ⟨k + 1, k + 1, P ++ [s.extract a k], by omega, by omega, by go_num, by go_num, by simp; omega, (fun x hx => by rcases List.mem_append.1 hx with h | h; exact hPs x h; rw [List.mem_singleton.1 h]; exact hsx), HS2, by (have h9 := HP1.out); simpa using h9, hB8⟩
        case measure => simp [intOf] <;> omega
      · have hne : (((by_ s k).toNat : Int) == (b.toNat : Int)) = false := by rw [beq_eq_false_iff_ne]; intro e; exact hxb (UInt8.toNat_inj.1 (by omega))
        have hstep := spl_step_ne hg hxb
        have HS2 := hide (show spl b s.data.toList = P.map (fun x => x.data.toList) ++ consH ((s.data.toList.drop a).take (k + 1 - a)) (spl b (s.data.toList.drop (k + 1))) by
          rw [HS.out, hstep, consH_app]
          congr 2
          rw [show k + 1 - a = (k - a) + 1 by omega, List.take_add_one, List.getElem?_drop, show a + (k - a) = k by omega, hg]
          rfl)
        clear hstep hg
        go_wp2_with fail
        go_roundw
        case rel => exact ⟨k + 1, a, P, by omega, by omega, by go_num, rfl, by omega, hPs, HS2, hO, hBe⟩
        case measure => simp [intOf] <;> omega
    · obtain rfl : k = n := by omega
      have hlP : (P.map Value.string).length = P.length := by simp
      have hsk : s.size = k := HN.out
      have hdk : s.data.toList.drop k = [] := List.drop_of_length_le (by rw [← Lib.size_eq]; omega)
      have HS2 := hide (show (P ++ [s.extract a k]).map (fun x => x.data.toList) = spl b s.data.toList by
        rw [HS.out, hdk]
        simp only [spl, consH, List.append_nil, List.map_append, List.map_cons, List.map_nil, ext_data])
      have hsx : (s.extract a k).size ≤ s.size := by rw [ByteArray.size_extract]; omega
      go_wp2_with (at_builtin; refine list_pushV 69 9 _ 16 (by kernel_rfl) str_info (by omega) rfl _ rfl _ _ rfl w.heap.size _ _ rfl (hO.alloc _) (.string (s.extract a k)) rfl wr.heap.size _ rfl (Blk.new _ _ _) (by rw [hlP]; omega) (by simp; omega) (by simp) ?_; intro g cap w8 hP)
      obtain ⟨p1, p2, p3, p4⟩ := hP
      have hB8 := (hBe.alloc hsz (.cells #[.string (s.extract a k)] 9)).grown p2 (by simp; omega) (fun q hq => (hO.lt q hq).1)
      have hP2 : P.map Value.string ++ [.string (s.extract a k)] = (P ++ [s.extract a k]).map Value.string := by simp
      rw [hP2] at p1
      go_ret
      exact ⟨_, P ++ [s.extract a k], rfl, by simpa using p1, HS2.out, (fun x hx => by rcases List.mem_append.1 hx with h | h; exact Nat.le_trans (hPs x h) (by omega); rw [List.mem_singleton.1 h]; exact hsx), hB8⟩
section
variable {t : TypeId} {w w' : World} {B B' : Nat} {v : Value} {us : List Value}
theorem OwV.at8 {A : Option Addr} {n c k : Nat} {u : Value} (h : OwV w B t (.slice A n c) us) (hu : us[k]? = some u) : ∃ g, A = some ⟨g, 0, none⟩ ∧ g < w.heap.size ∧ w.cell? ⟨g, k, none⟩ = some u := by
  rcases h.form with ⟨_, rfl⟩ | ⟨g, cap, e1, _, e3, _, e5⟩
  · simp at hu
  · injection e1 with e1
    exact ⟨g, e1, e3, e5 k u hu⟩
theorem OwV.far8 (h : OwV w B t v us) {row : Option Nat} (hg : w.grownBy w' row) (hne : v.ownBlock = none ∨ v.ownBlock ≠ row) : OwV w' B t v us := World.ownsRow.kept h hg hne
theorem OwV.apart8 (h : OwV w B t v us) {v' : Value} {xs : List Int} (k : Ow w B' v' xs) (ht : t ≠ 2) : v.ownBlock = none ∨ v.ownBlock ≠ v'.ownBlock := by
  obtain ⟨h1, h2⟩ := h
  rcases h2 with ⟨rfl, _⟩ | ⟨g, cap, cur, rfl, hg, hh, _⟩
  · exact .inl rfl
  · refine .inr fun e => k.blk_ne (g := g) (t := t) (cs := cur) hh ht ?_
    rw [← e]; rfl
end
theorem spl_mem (b : UInt8) (l : List UInt8) : ∀ x ∈ spl b l, x.length + (spl b l).length ≤ l.length + 1 := by
  induction l with
  | nil => intro x hx; rw [spl] at hx ⊢; rw [List.mem_singleton.1 hx]; simp
  | cons y r ih =>
    intro x hx
    have hne := spl_ne b r
    rw [spl] at hx ⊢
    cases hs : spl b r with
    | nil => exact absurd hs hne
    | cons z t =>
      rw [hs] at hx ih
      have h0 := ih z (by simp)
      simp only [List.length_cons] at h0 ⊢
      split at hx
      · rename_i h
        rw [if_pos h]
        simp only [List.length_cons]
        rcases List.mem_cons.1 hx with rfl | hx
        · simp; omega
        · have := ih x hx
          simp only [List.length_cons] at this
          omega
      · rename_i h
        rw [if_neg h]
        simp only [consH, List.length_cons] at hx ⊢
        rcases List.mem_cons.1 hx with rfl | hx
        · simp; omega
        · have := ih x (by simp [hx])
          simp only [List.length_cons] at this
          omega
theorem spl_len (b : UInt8) (l : List UInt8) : (spl b l).length ≤ l.length + 1 := by
  have hne := spl_ne b l
  cases hs : spl b l with
  | nil => exact absurd hs hne
  | cons z t =>
    have := spl_mem b l z (by rw [hs]; simp)
    rw [hs] at this
    omega
/-- The numbers of a text, as the reference reads them. -/
def lnL (s : List UInt8) : List Int := (spl 32 s).map fun l => lv ⟨l.toArray⟩
theorem lv_ok (s : ByteArray) : i64ok (lv s) := by
  unfold lv
  split
  · rename_i h
    unfold lvB at h
    simp only [Bool.and_eq_true, decide_eq_true_eq] at h
    have h1 := valD_lt s.data.toList 0 0 (by omega) (fun x hx => List.all_eq_true.1 h.2 x hx)
    have h2 : 10 ^ (0 + s.data.toList.length) ≤ 10 ^ 9 := Nat.pow_le_pow_right (by omega) (by have := h.1.1.2; omega)
    exact ⟨by omega, by omega⟩
  · exact ⟨by omega, by omega⟩
set_option maxHeartbeats 4000000 in
theorem l10Numbers_any (w : World) (s : ByteArray) (hs : s.size ≤ 1073741824) : Calls Tryz.prog 45 #[.string s] w (MkE E1 w (lnL s.data.toList)) := by
  have hS := l01Split_any w s 32 (by omega)
  go_enter Tryz.func45, Tryz.ntmps45
  go_wp2_with fail
  refine hS.mono ?_
  rintro e w1 ⟨v, ws, rfl, hW, hws, hsz, hb1⟩
  have hsl := spl_len 32 s.data.toList
  have hss : s.data.toList.length = s.size := (Lib.size_eq s).symm
  have hwl : ws.length ≤ 1073741825 := by rw [← List.length_map (f := fun x : ByteArray => x.data.toList), hws]; omega
  have HL := hide (show ws.map lv = lnL s.data.toList by unfold lnL; rw [← hws, List.map_map]; rfl)
  have hs1 := hb1.size
  obtain ⟨A, c, rfl⟩ : ∃ A c, v = .slice A ws.length c := by
    rcases hW.form with ⟨rfl, h⟩ | ⟨g, cap, rfl, _⟩
    · have : ws = [] := by simpa using h
      rw [this]; exact ⟨none, 0, rfl⟩
    · exact ⟨some ⟨g, 0, none⟩, cap, by rw [List.length_map]⟩
  obtain ⟨n, hn⟩ : ∃ n, ws.length = n := ⟨_, rfl⟩
  rw [hn] at hwl hW ⊢
  have HN := hide hn
  clear hS hws hsl hss hn
  have hO0 : Ow (w1.alloc (.cells #[] 2)) w.heap.size (.slice (some ⟨w1.heap.size, 0, none⟩) 0 0) ((ws.take 0).map lv) := Ow.made' (xs := []) _ _ w1.heap.size 0 rfl rfl hs1 rfl (by unfold maxLen; omega)
  have hB0 : Below w.heap.size w (w1.alloc (.cells #[] 2)) := hb1.alloc hs1 _
  have hW0 := hW.alloc (.cells #[] 2)
  go_wp2_with fail
  go_loopw [4, 5] (fun ov i wr => ∃ k : Nat, k ≤ n ∧ i = .int .i64 k ∧ Ow wr w.heap.size ov ((ws.take k).map lv) ∧ Below w.heap.size w wr ∧ OwV wr w.heap.size 9 (.slice A n c) (ws.map Value.string)) (fun _ i _ => n - (intOf i).toNat)
  case atStart => exact ⟨0, by omega, rfl, hO0, hB0, hW0⟩
  case round =>
    clear hO0 hB0 hW0 hW hb1
    obtain ⟨k, hk, rfl, hO, hBe, hW⟩ := hrel
    have hsz2 := hBe.size
    by_cases hlk : k < n
    · obtain ⟨x, hx⟩ := get_at (xs := ws) (k := k) (by have := HN.out; omega)
      obtain ⟨g0, rfl, hg0, c1⟩ := hW.at8 (k := k) (u := .string x) (by rw [List.getElem?_map, hx]; rfl)
      have hxs : x.size ≤ 1073741824 := by have := hsz x (List.mem_of_getElem? hx); omega
      have hR := l01Value_any wr x hxs
      have hv := lv_ok x
      obtain ⟨z, hz⟩ : ∃ z, lv x = z := ⟨_, rfl⟩
      rw [hz] at hR hv
      have HTK := hide (show (ws.take k).map lv ++ [z] = (ws.take (k + 1)).map lv by rw [List.take_add_one, hx, List.map_append, ← hz]; rfl)
      have hlen : ((ws.take k).map lv).length = k := by have := HN.out; simp; omega
      clear hx hz
      go_wp2_with fail
      clear c1
      refine hR.mono ?_
      rintro e w5 ⟨rfl, hb5⟩
      have hO5 := hO.below hb5
      have hB5 := hBe.trans (hb5.mono hsz2)
      have hW5 := hW.bel hb5
      have hs5 := hB5.size
      have hAp := hW5.apart8 hO5 (by decide)
      go_wp2_with (at_builtin; refine list_push _ rfl _ _ rfl w.heap.size _ _ rfl (hO5.alloc _) z w5.heap.size _ rfl (Blk.new _ _ _) (by rw [hlen]; omega) (by simp; omega) (by simp) ?_; intro g cap w8 hP)
      have hown := hP.own
      rw [HTK.out, hlen] at hown
      have HOw := hide hown
      have hbp := hP.below (hO5.alloc _) (by simp; omega)
      have hB7 := (hB5.alloc hs5 (.cells #[.int .i64 z] 2)).trans hbp
      have hW8 := (hW5.alloc (.cells #[.int .i64 z] 2)).far8 hP.2.1 hAp
      have hmn : min k ws.length = k := by have := HN.out; omega
      clear hown hP hO5 hO hlen hW5 hW hAp
      go_roundw
      case rel => exact ⟨k + 1, by omega, by go_num, by (try rw [hmn]); exact HOw.out, hB7, hW8⟩
      case measure => simp [intOf] <;> omega
    · obtain rfl : k = n := by omega
      rw [List.take_of_length_le (by rw [HN.out]; exact Nat.le_refl _)] at hO
      have HE := hide (E1.of_ow' hO (fun x hx => by
        obtain ⟨y, hy, rfl⟩ := List.mem_map.1 hx
        exact lv_ok y))
      clear hO
      go_wp2_with fail
      go_ret
      exact ⟨_, rfl, by rw [← HL.out]; exact HE.out, hBe⟩
theorem bs_eq {a b : ByteArray} (h : a.data.toList = b.data.toList) : a = b := by
  apply ByteArray.ext
  exact Array.toList_inj.1 h
theorem bs_mk (a : ByteArray) : (⟨a.data.toList.toArray⟩ : ByteArray) = a := bs_eq (by simp)
theorem decDigits_len {n : Nat} : ∀ k, 1 ≤ k → n < 10 ^ k → (Lib.decDigits n).length ≤ k := by
  induction n using Nat.strongRecOn with
  | ind n ih =>
    intro k hk h
    by_cases h1 : n < 10
    · rw [Lib.decDigits_one h1]; simpa using hk
    · rw [decDigits_last h1, List.length_append, List.length_singleton]
      obtain ⟨k, rfl⟩ : ∃ j, k = j + 1 := ⟨k - 1, by omega⟩
      rw [Nat.pow_succ] at h
      have hk1 : 1 ≤ k := by
        rcases Nat.eq_zero_or_pos k with rfl | h2
        · omega
        · exact h2
      have := ih (n / 10) (by omega) k hk1 (by omega)
      omega
theorem decDigits_head {n : Nat} (h : 1 ≤ n) : (Lib.decDigits n).head? ≠ some 48 := by
  induction n using Nat.strongRecOn with
  | ind n ih =>
    by_cases h1 : n < 10
    · rw [Lib.decDigits_one h1]
      intro e
      have e2 : UInt8.ofNat (48 + n) = 48 := by simpa using e
      have := dig_toNat h1
      rw [e2] at this
      have e3 : (48 : UInt8).toNat = 48 := rfl
      omega
    · rw [decDigits_last h1, List.head?_append]
      intro e
      have h2 := ih (n / 10) (by omega) (by omega)
      cases hq : Lib.decDigits (n / 10) with
      | nil => exact absurd hq (decDigits_ne _)
      | cons a b => rw [hq] at e h2; exact h2 (by simpa using e)
theorem decL_nat (n : Nat) : decL (n : Int) = Lib.decDigits n := by unfold decL; rw [Lib.itoa_nonneg]
theorem lv_dec {n : Nat} (h : n < 1000000000) : lv ⟨(decL (n : Int)).toArray⟩ = n := by
  rw [decL_nat]
  have h1 : lvB (Lib.decDigits n) = true := by
    unfold lvB
    have e1 := decDigits_len (n := n) 9 (by omega) (by omega)
    have e2 : (Lib.decDigits n).isEmpty = false := by
      have := decDigits_ne n
      cases h : Lib.decDigits n with
      | nil => exact absurd h this
      | cons a b => rfl
    have e3 : (Lib.decDigits n).all isDg = true := List.all_eq_true.2 (decDigits_dg n)
    have e4 : (decide (1 < (Lib.decDigits n).length) && (Lib.decDigits n).head? == some 48) = false := by
      by_cases hn : n < 10
      · rw [Lib.decDigits_one hn]; rfl
      · have := decDigits_head (n := n) (by omega)
        have e5 : ((Lib.decDigits n).head? == some 48) = false := by rw [beq_eq_false_iff_ne]; exact this
        rw [e5, Bool.and_false]
    rw [e2, e3, e4, decide_eq_true e1]
    rfl
  unfold lv
  simp only [List.toList_toArray, h1, if_true, valD_dec]
theorem rd_dec {n : Nat} (h : n < 1000000000) : rdV ⟨(decL (n : Int)).toArray⟩ = n ∧ rdB ⟨(decL (n : Int)).toArray⟩ = true := by
  have hp := parse_dec h
  unfold rdV rdB
  simp only [List.toList_toArray, decL_nat, hp]
  refine ⟨trivial, ?_⟩
  rw [beq_iff_eq]
  unfold dec
  rw [Lib.itoa_nonneg]
theorem lnL_join {xs : List Int} (h : xs ≠ []) (h0 : ∀ x ∈ xs, 0 ≤ x ∧ x < 1000000000) : lnL (joinT xs) = xs := by
  have hs : spl 32 (joinT xs) = xs.map decL := by
    unfold joinT
    refine spl_join 32 _ (by simpa using h) fun w hw => ?_
    obtain ⟨x, hx, rfl⟩ := List.mem_map.1 hw
    obtain ⟨n, rfl⟩ : ∃ n : Nat, x = n := ⟨x.toNat, by have := h0 x hx; omega⟩
    exact dec_no (.inl rfl)
  unfold lnL
  rw [hs, List.map_map]
  conv => rhs; rw [← List.map_id xs]
  refine List.map_congr_left fun x hx => ?_
  have := h0 x hx
  obtain ⟨n, rfl⟩ : ∃ n : Nat, x = n := ⟨x.toNat, by omega⟩
  exact lv_dec (by omega)
theorem wds_data (s : ByteArray) : (wds s).map (fun x => x.data.toList) = Lib.split s.data.toList [32] := by
  unfold wds
  rw [show (fun x : ByteArray => x.data.toList) = (·.data.toList) from rfl, Lib.splitB_data]
  rfl
theorem wds_join {xs : List Int} (h : xs ≠ []) (h0 : ∀ x ∈ xs, 0 ≤ x) : wds ⟨(joinT xs).toArray⟩ = xs.map fun x => ⟨(decL x).toArray⟩ := by
  have e := wds_data ⟨(joinT xs).toArray⟩
  simp only [List.toList_toArray] at e
  rw [split_jb h h0] at e
  have hinj : ∀ (a b : List ByteArray), a.map (fun x => x.data.toList) = b.map (fun x => x.data.toList) → a = b := by
    intro a
    induction a with
    | nil => intro b h; cases b with
      | nil => rfl
      | cons y r => simp at h
    | cons x r ih =>
      intro b h
      cases b with
      | nil => simp at h
      | cons y t =>
        simp only [List.map_cons, List.cons.injEq] at h
        rw [bs_eq h.1, ih t h.2]
  refine hinj _ _ (e.trans ?_)
  rw [List.map_map]
  rfl
theorem ri_join {xs : List Int} (h : xs ≠ []) (h0 : ∀ x ∈ xs, 0 ≤ x ∧ x < 1000000000) : riB ⟨(joinT xs).toArray⟩ = true ∧ riL ⟨(joinT xs).toArray⟩ = xs := by
  have e := wds_join h fun x hx => (h0 x hx).1
  have h1 : riB ⟨(joinT xs).toArray⟩ = true := by
    unfold riB
    rw [e]
    refine List.all_eq_true.2 fun y hy => ?_
    obtain ⟨x, hx, rfl⟩ := List.mem_map.1 hy
    have := h0 x hx
    obtain ⟨n, rfl⟩ : ∃ n : Nat, x = n := ⟨x.toNat, by omega⟩
    exact (rd_dec (by omega)).2
  refine ⟨h1, ?_⟩
  unfold riL
  rw [if_pos h1, e, List.map_map]
  conv => rhs; rw [← List.map_id xs]
  refine List.map_congr_left fun x hx => ?_
  have := h0 x hx
  obtain ⟨n, rfl⟩ : ∃ n : Nat, x = n := ⟨x.toNat, by omega⟩
  exact (rd_dec (by omega)).1
/-! ### the words of a list of numbers -/
theorem rdB_ne {x : ByteArray} (h : rdB x = true) : 1 ≤ x.size := by
  unfold rdB at h
  cases hp : Lib.parseIntB 64 x.data.toList with
  | ok v =>
    rw [hp] at h
    simp only [beq_iff_eq] at h
    rcases Nat.eq_zero_or_pos x.size with h0 | h0
    · exfalso
      have e : x.data.toList = [] := List.eq_nil_of_length_eq_zero (by rw [← Lib.size_eq]; exact h0)
      rw [e] at hp
      revert hp
      simp [Lib.parseIntB]
    · exact h0
  | _ => rw [hp] at h; cases h
theorem splitB_many : ∀ (k : Nat) (s : ByteArray), (∀ x ∈ Lib.splitB sp32 0 k s, 1 ≤ x.size) → (Lib.splitB sp32 0 k s).length ≤ s.size := by
  intro k
  induction k with
  | zero => intro s h; rw [Lib.splitB_zero] at h ⊢; simpa using h s (by simp)
  | succ k ih =>
    intro s h
    unfold Lib.splitB at h ⊢
    split
    · rename_i hc
      rw [if_pos hc] at h
      simpa using h s (by simp)
    · rename_i hc
      rw [if_neg hc] at h
      have h1 := h _ (List.mem_cons_self ..)
      have h2 := ih _ fun x hx => h x (List.mem_cons_of_mem _ hx)
      rw [ByteArray.size_extract] at h1 h2
      have e : sp32.size = 1 := rfl
      rw [List.length_cons]
      omega
theorem riL_len (s : ByteArray) : (riL s).length ≤ s.size := by
  unfold riL
  by_cases h : riB s = true
  · rw [if_pos h, List.length_map]
    refine splitB_many _ s fun x hx => rdB_ne ?_
    unfold riB at h
    exact List.all_eq_true.1 h x hx
  · rw [if_neg h]; exact Nat.zero_le _
/-! ### the two readings -/
def c59 : ByteArray := ⟨#[59]⟩
def c58 : ByteArray := ⟨#[58]⟩
def cut1 (s c : ByteArray) : ByteArray := ⟨(Lib.cut s.data.toList c.data.toList).1.toArray⟩
def cut2 (s c : ByteArray) : ByteArray := ⟨(Lib.cut s.data.toList c.data.toList).2.1.toArray⟩
/-- The program's reading. -/
def pgX (s : ByteArray) : metric_T := (riL (cut1 s c59), rdV (cut1 (cut2 s c59) c58), riL (cut2 (cut2 s c59) c58))
/-- The reference's reading. -/
def rfX (s : ByteArray) : Option metric_T := match spl 59 s.data.toList with
  | [a, b] => match spl 58 b with
    | [d, e] => some (lnL a, lv ⟨d.toArray⟩, lnL e)
    | _ => none
  | _ => none
def Txt (s : ByteArray) (x : metric_T) : Prop := isM x.1 x.2.1 x.2.2 = true ∧ metText x.1 x.2.1 x.2.2 = s
structure Small (x : metric_T) : Prop where
  o : ∀ y ∈ x.1, 0 ≤ y ∧ y < 1000000000
  n : x.1 ≠ []
  d : 0 ≤ x.2.1 ∧ x.2.1 < 1000000000
  v : ∀ y ∈ x.2.2, 0 ≤ y ∧ y < 1000000000
  m : x.2.2 ≠ []
theorem small_of {x : metric_T} (h : isM x.1 x.2.1 x.2.2 = true) : Small x := by
  have hok := (isM_iff.1 h).ok
  have d1 := hok.d1
  have d2 := hok.d2
  have hl := hok.len
  have hp := prodL_pos hok.g.pos
  refine ⟨fun y hy => ?_, fun e => ?_, ⟨by omega, by omega⟩, fun y hy => ?_, fun e => ?_⟩
  · have := hok.g.m2 y hy; have := hok.g.m16 y hy; omega
  · have := hok.g.l1; rw [e] at this; simp at this
  · have := hok.rng y hy; omega
  · rw [e] at hl; simp at hl; omega
theorem rfX_txt {s : ByteArray} {x : metric_T} (h : Txt s x) : rfX s = some x := by
  obtain ⟨h1, rfl⟩ := h
  have hS := small_of h1
  have hd : 58 ∉ decL x.2.1 ∧ 59 ∉ decL x.2.1 := by
    obtain ⟨n, hn⟩ : ∃ n : Nat, x.2.1 = n := ⟨x.2.1.toNat, by have := hS.d; omega⟩
    rw [hn]
    exact ⟨dec_no (.inr (.inl rfl)), dec_no (.inr (.inr rfl))⟩
  have e1 : spl 59 (metText x.1 x.2.1 x.2.2).data.toList = [joinT x.1, decL x.2.1 ++ 58 :: joinT x.2.2] := by
    rw [metText_data]
    unfold metB
    rw [spl_cut 59 _ _ (joinT_no (fun y hy => (hS.o y hy).1) (.inr rfl)), spl_word 59 _ (fun h => by
      rcases List.mem_append.1 h with h | h
      · exact hd.2 h
      · rcases List.mem_cons.1 h with h | h
        · exact absurd h (by decide)
        · exact joinT_no (fun y hy => (hS.v y hy).1) (.inr rfl) h)]
  have e2 : spl 58 (decL x.2.1 ++ 58 :: joinT x.2.2) = [decL x.2.1, joinT x.2.2] := by
    rw [spl_cut 58 _ _ hd.1, spl_word 58 _ (joinT_no (fun y hy => (hS.v y hy).1) (.inl rfl))]
  have e3 : lv ⟨(decL x.2.1).toArray⟩ = x.2.1 := by
    obtain ⟨n, hn⟩ : ∃ n : Nat, x.2.1 = n := ⟨x.2.1.toNat, by have := hS.d; omega⟩
    have := hS.d
    rw [hn]
    exact lv_dec (by omega)
  unfold rfX
  rw [e1]
  simp only [e2, lnL_join hS.n hS.o, lnL_join hS.m hS.v, e3]
theorem pg_txt {s : ByteArray} {x : metric_T} (h : Txt s x) : pgX s = x ∧ riB (cut1 s c59) = true ∧ rdB (cut1 (cut2 s c59) c58) = true ∧ riB (cut2 (cut2 s c59) c58) = true := by
  obtain ⟨h1, rfl⟩ := h
  have hS := small_of h1
  have e0 : cut1 (metText x.1 x.2.1 x.2.2) c59 = ⟨(joinT x.1).toArray⟩ ∧ cut2 (metText x.1 x.2.1 x.2.2) c59 = ⟨(decL x.2.1 ++ 58 :: joinT x.2.2).toArray⟩ := by
    unfold cut1 cut2
    rw [metText_data, show c59.data.toList = [59] from rfl, met_cut1 (fun y hy => (hS.o y hy).1)]
    exact ⟨rfl, rfl⟩
  have e1 : cut1 ⟨(decL x.2.1 ++ 58 :: joinT x.2.2).toArray⟩ c58 = ⟨(decL x.2.1).toArray⟩ ∧ cut2 ⟨(decL x.2.1 ++ 58 :: joinT x.2.2).toArray⟩ c58 = ⟨(joinT x.2.2).toArray⟩ := by
    unfold cut1 cut2
    rw [show c58.data.toList = [58] from rfl, List.toList_toArray, met_cut2 hS.d.1]
    exact ⟨rfl, rfl⟩
  have e3 : rdV ⟨(decL x.2.1).toArray⟩ = x.2.1 ∧ rdB ⟨(decL x.2.1).toArray⟩ = true := by
    obtain ⟨n, hn⟩ : ∃ n : Nat, x.2.1 = n := ⟨x.2.1.toNat, by have := hS.d; omega⟩
    have := hS.d
    rw [hn]
    exact rd_dec (by omega)
  unfold pgX
  rw [e0.1, e0.2, e1.1, e1.2, (ri_join hS.n hS.o).2, (ri_join hS.m hS.v).2, e3.1]
  exact ⟨rfl, (ri_join hS.n hS.o).1, e3.2, (ri_join hS.m hS.v).1⟩
open Classical in
/-- What both return. -/
noncomputable def pmB (s : ByteArray) : Bool := decide (∃ x, Txt s x)
noncomputable def pmX (s : ByteArray) : metric_T := if pmB s = true then pgX s else ([], 0, [])
noncomputable def pmC (s : ByteArray) : Int := if pmB s = true then 0 else 6
open Classical in
theorem pm_yes {s : ByteArray} {x : metric_T} (h : Txt s x) : pmX s = x ∧ pmC s = 0 := by
  have hb : pmB s = true := by unfold pmB; exact decide_eq_true ⟨x, h⟩
  unfold pmX pmC
  rw [if_pos hb, if_pos hb]
  exact ⟨(pg_txt h).1, rfl⟩
open Classical in
theorem pm_no {s : ByteArray} (h : ¬ ∃ x, Txt s x) : pmX s = ([], 0, []) ∧ pmC s = 6 := by
  have hb : ¬ pmB s = true := by unfold pmB; intro e; exact h (of_decide_eq_true e)
  unfold pmX pmC
  rw [if_neg hb, if_neg hb]
  exact ⟨rfl, rfl⟩
open Classical in
theorem pm_small {s : ByteArray} : (pmX s).1.length + (pmX s).2.2.length ≤ 20 := by
  by_cases h : ∃ x, Txt s x
  · obtain ⟨x, hx⟩ := h
    rw [(pm_yes hx).1]
    have hok := (isM_iff.1 hx.1).ok
    have := hok.lt
    have := hok.g.l4
    omega
  · rw [(pm_no h).1]; simp
end Go.Proofs.YtonehmjoolflfaaGreatDoor
