
/- The walk of l01Split. -/
import Derived.Test.YtkhkejdkakmiiaaGreatDoorPM6
namespace Go.Proofs.YtkhkejdkakmiiaaGreatDoor
open Go Go.RowKit Go.Shelf
set_option linter.unusedSimpArgs false
set_option linter.unusedVariables false
set_option maxRecDepth 100000
theorem spl_step_eq {b : UInt8} {l : List UInt8} {k : Nat} (h : l[k]? = some b) : spl b (l.drop k) = [] :: spl b (l.drop (k + 1)) := by
  obtain ⟨h1, h2⟩ := List.getElem?_eq_some_iff.1 h
  rw [List.drop_eq_getElem_cons h1, h2, spl, if_pos rfl]
theorem spl_step_ne {b x : UInt8} {l : List UInt8} {k : Nat} (h : l[k]? = some x) (hx : x ≠ b) : spl b (l.drop k) = consH [x] (spl b (l.drop (k + 1))) := by
  obtain ⟨h1, h2⟩ := List.getElem?_eq_some_iff.1 h
  rw [List.drop_eq_getElem_cons h1, h2, spl, if_neg hx]
theorem ext_data (s : ByteArray) (a k : Nat) : (s.extract a k).data.toList = (s.data.toList.drop a).take (k - a) := by
  simp [ByteArray.data_extract, List.extract_eq_take_drop]
/-- It returned a row of texts. -/
def MkW (w : World) (ls : List (List UInt8)) (n : Nat) (e : Ending) (w' : World) : Prop := ∃ (v : Value) (ws : List ByteArray), e = .returned v ∧ OwV w' w.heap.size 9 v (ws.map Value.string) ∧ ws.map (fun x => x.data.toList) = ls ∧ (∀ x ∈ ws, x.size ≤ n) ∧ Below w.heap.size w w'
set_option maxHeartbeats 4000000 in
theorem l01Split_any (w : World) (s : ByteArray) (b : UInt8) (hs : s.size ≤ 1048576) : Calls Tryz.prog 9 #[.string s, .int .u8 b.toNat] w (MkW w (spl b s.data.toList) s.size) := by
  obtain ⟨n, hn⟩ : ∃ n, s.size = n := ⟨_, rfl⟩
  have HN := hide hn
  have hs' : n ≤ 1048576 := by omega
  have hO0 : OwV (w.alloc (.cells #[] 9)) w.heap.size 9 (.slice (some ⟨w.heap.size, 0, none⟩) 0 0) (([] : List ByteArray).map Value.string) := OwV.made w _ _ rfl (Nat.le_refl _)
  have hb0 : Below w.heap.size w (w.alloc (.cells #[] 9)) := (Below.refl _ _).alloc (Nat.le_refl _) _
  go_enter Tryz.func9, Tryz.ntmps9
  go_wp2_with fail
  go_loopw [5, 6, 7] (fun ov av i wr => ∃ (k a : Nat) (P : List ByteArray), k ≤ n ∧ a ≤ k ∧ i = .int .i64 k ∧ av = .int .i64 a ∧ P.length ≤ k ∧ (∀ x ∈ P, x.size ≤ n) ∧ Hid (spl b s.data.toList = P.map (fun x => x.data.toList) ++ consH ((s.data.toList.drop a).take (k - a)) (spl b (s.data.toList.drop k))) ∧ OwV wr w.heap.size 9 ov (P.map Value.string) ∧ Below w.heap.size w wr) (fun _ _ i _ => n - (intOf i).toNat)
  case atStart => exact ⟨0, 0, [], by omega, by omega, rfl, rfl, by simp, by simp, hide (by simp [consH_nil _ (spl_ne b _)]), hO0, hb0⟩
  case round =>
    clear hO0 hb0
    obtain ⟨k, a, P, hk, ha, rfl, rfl, hPl, hPs, HS, hO, hBe⟩ := hrel
    have hsz := hBe.size
    by_cases hlk : k < n
    · have hks : k < s.size := by omega
      have hx1 : ∀ h : k < s.size, (s[k]'h).toNat = (by_ s k).toNat := fun h => by rw [by_get s h]
      have hg := by_some s hks
      by_cases hxb : by_ s k = b
      · have heq : (((by_ s k).toNat : Int) == (b.toNat : Int)) = true := by rw [hxb]; simp
        have hlP : (P.map Value.string).length = P.length := by simp
        go_wp2_with (at_builtin; refine list_pushV 30 9 _ 16 (by kernel_rfl) str_info (by omega) rfl _ rfl _ _ rfl w.heap.size _ _ rfl (hO.alloc _) (.string (s.extract a k)) rfl wr.heap.size _ rfl (Blk.new _ _ _) (by rw [hlP]; omega) (by simp; omega) (by simp) ?_; intro g cap w8 hP)
        obtain ⟨p1, p2, p3, p4⟩ := hP
        have hB8 := (hBe.alloc hsz (.cells #[.string (s.extract a k)] 9)).grown p2 (by simp; omega) (fun q hq => (hO.lt q hq).1)
        have hP2 : P.map Value.string ++ [.string (s.extract a k)] = (P ++ [s.extract a k]).map Value.string := by simp
        rw [hP2, hlP] at p1
        have HP1 := hide p1
        have hg2 : s.data.toList[k]? = some b := by rw [hg, hxb]
        have HS2 := hide (show spl b s.data.toList = (P ++ [s.extract a k]).map (fun x => x.data.toList) ++ consH ((s.data.toList.drop (k + 1)).take (k + 1 - (k + 1))) (spl b (s.data.toList.drop (k + 1))) by
          rw [HS.out, spl_step_eq hg2, Nat.sub_self, List.take_zero, consH_nil _ (spl_ne b _)]
          simp only [consH, List.append_nil, List.map_append, List.map_cons, List.map_nil, ext_data, List.append_assoc, List.cons_append, List.nil_append])
        have hsx : (s.extract a k).size ≤ n := by rw [ByteArray.size_extract]; omega
        clear p1 p2 p3 p4 hO hg hg2 hP2
        go_roundw
        case rel => exact ⟨k + 1, k + 1, P ++ [s.extract a k], by omega, by omega, by go_num, by go_num, by simp; omega, (fun x hx => by rcases List.mem_append.1 hx with h | h; exact hPs x h; rw [List.mem_singleton.1 h]; exact hsx), HS2, by (have h9 := HP1.out); simpa using h9, hB8⟩
        case measure => simp [intOf] <;> omega
      · have hne : (((by_ s k).toNat : Int) == (b.toNat : Int)) = false := by rw [beq_eq_false_iff_ne]; intro e; exact hxb (UInt8.toNat_inj.1 (by omega))
        have hstep := spl_step_ne hg hxb
        have HS2 := hide (show spl b s.data.toList = P.map (fun x => x.data.toList) ++ consH ((s.data.toList.drop a).take (k + 1 - a)) (spl b (s.data.toList.drop (k + 1))) by
          rw [HS.out, hstep, consH_app]
          congr 2
          rw [show k + 1 - a = (k - a) + 1 by omega, List.take_add_one, List.getElem?_drop, show a + (k - a) = k by omega, hg]
          rfl)
        clear hstep hg
        go_wp2_with fail
        go_roundw
        case rel => exact ⟨k + 1, a, P, by omega, by omega, by go_num, rfl, by omega, hPs, HS2, hO, hBe⟩
        case measure => simp [intOf] <;> omega
    · obtain rfl : k = n := by omega
      have hlP : (P.map Value.string).length = P.length := by simp
      have hsk : s.size = k := HN.out
      have hdk : s.data.toList.drop k = [] := List.drop_of_length_le (by rw [← Lib.size_eq]; omega)
      have HS2 := hide (show (P ++ [s.extract a k]).map (fun x => x.data.toList) = spl b s.data.toList by
        rw [HS.out, hdk]
        simp only [spl, consH, List.append_nil, List.map_append, List.map_cons, List.map_nil, ext_data])
      have hsx : (s.extract a k).size ≤ s.size := by rw [ByteArray.size_extract]; omega
      go_wp2_with (at_builtin; refine list_pushV 30 9 _ 16 (by kernel_rfl) str_info (by omega) rfl _ rfl _ _ rfl w.heap.size _ _ rfl (hO.alloc _) (.string (s.extract a k)) rfl wr.heap.size _ rfl (Blk.new _ _ _) (by rw [hlP]; omega) (by simp; omega) (by simp) ?_; intro g cap w8 hP)
      obtain ⟨p1, p2, p3, p4⟩ := hP
      have hB8 := (hBe.alloc hsz (.cells #[.string (s.extract a k)] 9)).grown p2 (by simp; omega) (fun q hq => (hO.lt q hq).1)
      have hP2 : P.map Value.string ++ [.string (s.extract a k)] = (P ++ [s.extract a k]).map Value.string := by simp
      rw [hP2] at p1
      go_ret
      exact ⟨_, P ++ [s.extract a k], rfl, by simpa using p1, HS2.out, (fun x hx => by rcases List.mem_append.1 hx with h | h; exact Nat.le_trans (hPs x h) (by omega); rw [List.mem_singleton.1 h]; exact hsx), hB8⟩
end Go.Proofs.YtkhkejdkakmiiaaGreatDoor
