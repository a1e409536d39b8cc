
/- The reference's l01Split, l01Value. -/
import Derived.Test.YtkhkejdkakmiiaaGreatDoorPM3
namespace Go.Proofs.YtkhkejdkakmiiaaGreatDoor
open Go Go.RowKit Go.Shelf
set_option linter.unusedSimpArgs false
set_option linter.unusedVariables false
set_option maxRecDepth 100000
/-- What l01Value returns at the text of a small number. -/
def lvB (l : List UInt8) : Bool := !l.isEmpty && decide (l.length ≤ 9) && !(decide (1 < l.length) && l.head? == some 48) && l.all isDg
def lv (s : ByteArray) : Int := if lvB s.data.toList = true then (valD 0 s.data.toList : Nat) else -1
theorem valD_lt (l : List UInt8) : ∀ acc k, acc < 10 ^ k → (∀ x ∈ l, isDg x = true) → valD acc l < 10 ^ (k + l.length) := by
  induction l with
  | nil => intro acc k h _; exact h
  | cons c r ih =>
    intro acc k h hd
    have hc := hd c (by simp)
    unfold isDg at hc
    rw [decide_eq_true_eq] at hc
    have := ih (acc * 10 + (c.toNat - 48)) (k + 1) (by rw [Nat.pow_succ]; omega) fun x hx => hd x (by simp [hx])
    have e : k + (c :: r).length = k + 1 + r.length := by simp; omega
    rw [e]
    exact this
theorem valD_take {l : List UInt8} {k : Nat} {x : UInt8} (h : l[k]? = some x) : valD 0 (l.take (k + 1)) = valD 0 (l.take k) * 10 + (x.toNat - 48) := by
  unfold valD
  rw [List.take_add_one, h, List.foldl_append]
  rfl
theorem lvB_early (s : ByteArray) (h : s.size = 0 ∨ 9 < s.size) : lv s = -1 := by
  have hsz : s.size = s.data.toList.length := Lib.size_eq s
  unfold lv lvB
  rcases h with h | h
  · have : s.data.toList = [] := List.eq_nil_of_length_eq_zero (by omega)
    rw [this]; rfl
  · have : decide (s.data.toList.length ≤ 9) = false := by simp; omega
    rw [this]; simp
set_option maxHeartbeats 4000000 in
theorem l01Value_early (w : World) (s : ByteArray) (h : s.size = 0 ∨ 9 < s.size) (hs : s.size ≤ 1048576) : Calls Tryz.prog 11 #[.string s] w (Re w (.int .i64 (lv s))) := by
  have hE := hide (lvB_early s h)
  obtain ⟨n, hn⟩ : ∃ n, s.size = n := ⟨_, rfl⟩
  rw [hn] at h hs
  rcases h with rfl | h
  · go_enter Tryz.func11, Tryz.ntmps11
    go_wp2_with fail
    go_ret
    exact ⟨by rw [hE.out]; rfl, Below.refl _ _⟩
  · have h0 : ¬ n = 0 := by omega
    have h9 : (9 : Int) < n := by omega
    go_enter Tryz.func11, Tryz.ntmps11
    go_wp2_with fail
    go_ret
    exact ⟨by rw [hE.out]; rfl, Below.refl _ _⟩
def by_ (s : ByteArray) (k : Nat) : UInt8 := s.data.toList.getD k 0
theorem by_get (s : ByteArray) {k : Nat} (h : k < s.size) : (s[k]'h) = by_ s k := by
  have h' : k < s.data.size := h
  unfold by_
  rw [List.getD_eq_getElem?_getD, Array.getElem?_toList, Array.getElem?_eq_getElem h']
  rfl
theorem by_some (s : ByteArray) {k : Nat} (h : k < s.size) : s.data.toList[k]? = some (by_ s k) := by
  have h' : k < s.data.toList.length := by rw [← Lib.size_eq]; exact h
  unfold by_
  rw [List.getD_eq_getElem?_getD, List.getElem?_eq_getElem h']; rfl
end Go.Proofs.YtkhkejdkakmiiaaGreatDoor
