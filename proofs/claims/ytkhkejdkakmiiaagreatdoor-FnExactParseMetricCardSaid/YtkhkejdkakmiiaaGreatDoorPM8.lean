
/- The walk of l10Numbers. -/
import Derived.Test.YtkhkejdkakmiiaaGreatDoorPM7
namespace Go.Proofs.YtkhkejdkakmiiaaGreatDoor
open Go Go.RowKit Go.Shelf
set_option linter.unusedSimpArgs false
set_option linter.unusedVariables false
set_option maxRecDepth 100000
section
variable {t : TypeId} {w w' : World} {B B' : Nat} {v : Value} {us : List Value}
theorem OwV.at8 {A : Option Addr} {n c k : Nat} {u : Value} (h : OwV w B t (.slice A n c) us) (hu : us[k]? = some u) : ∃ g, A = some ⟨g, 0, none⟩ ∧ g < w.heap.size ∧ w.cell? ⟨g, k, none⟩ = some u := by
  rcases h.form with ⟨_, rfl⟩ | ⟨g, cap, e1, _, e3, _, e5⟩
  · simp at hu
  · injection e1 with e1
    exact ⟨g, e1, e3, e5 k u hu⟩
theorem OwV.far8 (h : OwV w B t v us) {row : Option Nat} (hg : w.grownBy w' row) (hne : v.ownBlock = none ∨ v.ownBlock ≠ row) : OwV w' B t v us := World.ownsRow.kept h hg hne
theorem OwV.apart8 (h : OwV w B t v us) {v' : Value} {xs : List Int} (k : Ow w B' v' xs) (ht : t ≠ 2) : v.ownBlock = none ∨ v.ownBlock ≠ v'.ownBlock := by
  obtain ⟨h1, h2⟩ := h
  rcases h2 with ⟨rfl, _⟩ | ⟨g, cap, cur, rfl, hg, hh, _⟩
  · exact .inl rfl
  · refine .inr fun e => k.blk_ne (g := g) (t := t) (cs := cur) hh ht ?_
    rw [← e]; rfl
end
theorem spl_mem (b : UInt8) (l : List UInt8) : ∀ x ∈ spl b l, x.length + (spl b l).length ≤ l.length + 1 := by
  induction l with
  | nil => intro x hx; rw [spl] at hx ⊢; rw [List.mem_singleton.1 hx]; simp
  | cons y r ih =>
    intro x hx
    have hne := spl_ne b r
    rw [spl] at hx ⊢
    cases hs : spl b r with
    | nil => exact absurd hs hne
    | cons z t =>
      rw [hs] at hx ih
      have h0 := ih z (by simp)
      simp only [List.length_cons] at h0 ⊢
      split at hx
      · rename_i h
        rw [if_pos h]
        simp only [List.length_cons]
        rcases List.mem_cons.1 hx with rfl | hx
        · simp; omega
        · have := ih x hx
          simp only [List.length_cons] at this
          omega
      · rename_i h
        rw [if_neg h]
        simp only [consH, List.length_cons] at hx ⊢
        rcases List.mem_cons.1 hx with rfl | hx
        · simp; omega
        · have := ih x (by simp [hx])
          simp only [List.length_cons] at this
          omega
theorem spl_len (b : UInt8) (l : List UInt8) : (spl b l).length ≤ l.length + 1 := by
  have hne := spl_ne b l
  cases hs : spl b l with
  | nil => exact absurd hs hne
  | cons z t =>
    have := spl_mem b l z (by rw [hs]; simp)
    rw [hs] at this
    omega
/-- The numbers of a text, as the reference reads them. -/
def lnL (s : List UInt8) : List Int := (spl 32 s).map fun l => lv ⟨l.toArray⟩
theorem lv_ok (s : ByteArray) : i64ok (lv s) := by
  unfold lv
  split
  · rename_i h
    unfold lvB at h
    simp only [Bool.and_eq_true, decide_eq_true_eq] at h
    have h1 := valD_lt s.data.toList 0 0 (by omega) (fun x hx => List.all_eq_true.1 h.2 x hx)
    have h2 : 10 ^ (0 + s.data.toList.length) ≤ 10 ^ 9 := Nat.pow_le_pow_right (by omega) (by have := h.1.1.2; omega)
    exact ⟨by omega, by omega⟩
  · exact ⟨by omega, by omega⟩
set_option maxHeartbeats 4000000 in
theorem l10Numbers_any (w : World) (s : ByteArray) (hs : s.size ≤ 1048576) : Calls Tryz.prog 10 #[.string s] w (MkE E1 w (lnL s.data.toList)) := by
  have hS := l01Split_any w s 32 (by omega)
  go_enter Tryz.func10, Tryz.ntmps10
  go_wp2_with fail
  refine hS.mono ?_
  rintro e w1 ⟨v, ws, rfl, hW, hws, hsz, hb1⟩
  have hsl := spl_len 32 s.data.toList
  have hss : s.data.toList.length = s.size := (Lib.size_eq s).symm
  have hwl : ws.length ≤ 1048577 := by rw [← List.length_map (f := fun x : ByteArray => x.data.toList), hws]; omega
  have HL := hide (show ws.map lv = lnL s.data.toList by unfold lnL; rw [← hws, List.map_map]; rfl)
  have hs1 := hb1.size
  obtain ⟨A, c, rfl⟩ : ∃ A c, v = .slice A ws.length c := by
    rcases hW.form with ⟨rfl, h⟩ | ⟨g, cap, rfl, _⟩
    · have : ws = [] := by simpa using h
      rw [this]; exact ⟨none, 0, rfl⟩
    · exact ⟨some ⟨g, 0, none⟩, cap, by rw [List.length_map]⟩
  obtain ⟨n, hn⟩ : ∃ n, ws.length = n := ⟨_, rfl⟩
  rw [hn] at hwl hW ⊢
  have HN := hide hn
  clear hS hws hsl hss hn
  have hO0 : Ow (w1.alloc (.cells #[] 2)) w.heap.size (.slice (some ⟨w1.heap.size, 0, none⟩) 0 0) ((ws.take 0).map lv) := Ow.made' (xs := []) _ _ w1.heap.size 0 rfl rfl hs1 rfl (by unfold maxLen; omega)
  have hB0 : Below w.heap.size w (w1.alloc (.cells #[] 2)) := hb1.alloc hs1 _
  have hW0 := hW.alloc (.cells #[] 2)
  go_wp2_with fail
  go_loopw [4, 5] (fun ov i wr => ∃ k : Nat, k ≤ n ∧ i = .int .i64 k ∧ Ow wr w.heap.size ov ((ws.take k).map lv) ∧ Below w.heap.size w wr ∧ OwV wr w.heap.size 9 (.slice A n c) (ws.map Value.string)) (fun _ i _ => n - (intOf i).toNat)
  case atStart => exact ⟨0, by omega, rfl, hO0, hB0, hW0⟩
  case round =>
    clear hO0 hB0 hW0 hW hb1
    obtain ⟨k, hk, rfl, hO, hBe, hW⟩ := hrel
    have hsz2 := hBe.size
    by_cases hlk : k < n
    · obtain ⟨x, hx⟩ := get_at (xs := ws) (k := k) (by have := HN.out; omega)
      obtain ⟨g0, rfl, hg0, c1⟩ := hW.at8 (k := k) (u := .string x) (by rw [List.getElem?_map, hx]; rfl)
      have hxs : x.size ≤ 1048576 := by have := hsz x (List.mem_of_getElem? hx); omega
      have hR := l01Value_any wr x hxs
      have hv := lv_ok x
      obtain ⟨z, hz⟩ : ∃ z, lv x = z := ⟨_, rfl⟩
      rw [hz] at hR hv
      have HTK := hide (show (ws.take k).map lv ++ [z] = (ws.take (k + 1)).map lv by rw [List.take_add_one, hx, List.map_append, ← hz]; rfl)
      have hlen : ((ws.take k).map lv).length = k := by have := HN.out; simp; omega
      clear hx hz
      go_wp2_with fail
      clear c1
      refine hR.mono ?_
      rintro e w5 ⟨rfl, hb5⟩
      have hO5 := hO.below hb5
      have hB5 := hBe.trans (hb5.mono hsz2)
      have hW5 := hW.bel hb5
      have hs5 := hB5.size
      have hAp := hW5.apart8 hO5 (by decide)
      go_wp2_with (at_builtin; refine list_push _ rfl _ _ rfl w.heap.size _ _ rfl (hO5.alloc _) z w5.heap.size _ rfl (Blk.new _ _ _) (by rw [hlen]; omega) (by simp; omega) (by simp) ?_; intro g cap w8 hP)
      have hown := hP.own
      rw [HTK.out, hlen] at hown
      have HOw := hide hown
      have hbp := hP.below (hO5.alloc _) (by simp; omega)
      have hB7 := (hB5.alloc hs5 (.cells #[.int .i64 z] 2)).trans hbp
      have hW8 := (hW5.alloc (.cells #[.int .i64 z] 2)).far8 hP.2.1 hAp
      have hmn : min k ws.length = k := by have := HN.out; omega
      clear hown hP hO5 hO hlen hW5 hW hAp
      go_roundw
      case rel => exact ⟨k + 1, by omega, by go_num, by (try rw [hmn]); exact HOw.out, hB7, hW8⟩
      case measure => simp [intOf] <;> omega
    · obtain rfl : k = n := by omega
      rw [List.take_of_length_le (by rw [HN.out]; exact Nat.le_refl _)] at hO
      have HE := hide (E1.of_ow' hO (fun x hx => by
        obtain ⟨y, hy, rfl⟩ := List.mem_map.1 hx
        exact lv_ok y))
      clear hO
      go_wp2_with fail
      go_ret
      exact ⟨_, rfl, by rw [← HL.out]; exact HE.out, hBe⟩
end Go.Proofs.YtkhkejdkakmiiaaGreatDoor
