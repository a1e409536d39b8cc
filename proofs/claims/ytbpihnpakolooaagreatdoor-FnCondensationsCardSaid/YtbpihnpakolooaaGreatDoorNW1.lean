
/- The walks of the laws' own functions on nested slices: szInt64SS, toInt64SS, eqInt64SS, markInt64SS, heldInt64SS, and one level deeper. -/
import Derived.Test.YtbpihnpakolooaaGreatDoorNS
import Derived.Test.YtbpihnpakolooaaGreatDoorBa
import Derived.Test.YtbpihnpakolooaaGreatDoorLa
namespace Go.Proofs.YtbpihnpakolooaaGreatDoor
open Go Go.RowKit
set_option linter.unusedSimpArgs false
set_option linter.unusedVariables false

theorem rows_info : (Tryz.prog.info? 24).map (fun i => (i.zero, i.size, i.bytes)) = some (some (.slice none 0 0), 1, 24) := by kernel_rfl

/-! ### plain -/
section
variable {α : Type}
def psum (f : α → Nat) (xs : List α) (k : Nat) : Nat := ((xs.take k).map f).sum
theorem psum_zero (f : α → Nat) (xs : List α) : psum f xs 0 = 0 := rfl
theorem psum_succ {f : α → Nat} {xs : List α} {k : Nat} {x : α} (h : xs[k]? = some x) : psum f xs (k + 1) = psum f xs k + f x := by
  unfold psum
  rw [List.take_add_one, h]
  simp
theorem psum_all (f : α → Nat) (xs : List α) {k : Nat} (h : xs.length ≤ k) : psum f xs k = (xs.map f).sum := by unfold psum; rw [List.take_of_length_le h]
theorem psum_le (f : α → Nat) (xs : List α) (k : Nat) : psum f xs k ≤ (xs.map f).sum := by
  unfold psum
  conv => rhs; rw [← List.take_append_drop k xs]
  rw [List.map_append, List.sum_append]
  omega
def totL (f : α → Nat) (xs : List α) : Nat := xs.length + (xs.map f).sum
theorem get_at {xs : List α} {k : Nat} (h : k < xs.length) : ∃ x, xs[k]? = some x := ⟨xs[k], List.getElem?_eq_getElem h⟩
theorem get_lt {xs : List α} {k : Nat} {x : α} (h : xs[k]? = some x) : k < xs.length := (List.getElem?_eq_some_iff.1 h).1
theorem get_mem {xs : List α} {k : Nat} {x : α} (h : xs[k]? = some x) : x ∈ xs := by obtain ⟨h1, h2⟩ := List.getElem?_eq_some_iff.1 h; rw [← h2]; exact List.getElem_mem h1
theorem totL_mem {f : α → Nat} {xs : List α} {x : α} (h : x ∈ xs) : f x ≤ totL f xs := by
  unfold totL
  induction xs with
  | nil => cases h
  | cons y ys ih =>
    simp only [List.map_cons, List.sum_cons, List.length_cons]
    rcases List.mem_cons.1 h with rfl | h
    · omega
    · have := ih h; omega
theorem take_step' {xs ys : List α} {k : Nat} {x y : α} (hx : xs[k]? = some x) (hy : ys[k]? = some y) (h : xs.take k = ys.take k) (he : x = y) : xs.take (k + 1) = ys.take (k + 1) := by
  rw [List.take_add_one, List.take_add_one, hx, hy, h, he]
theorem ne_of_get [BEq α] [LawfulBEq α] {xs ys : List α} {k : Nat} {x y : α} (hx : xs[k]? = some x) (hy : ys[k]? = some y) (he : x ≠ y) : (xs == ys) = false := by
  rw [beq_eq_false_iff_ne]; rintro rfl; rw [hx] at hy; injection hy with hy; exact he hy
theorem eq_of_take [BEq α] [LawfulBEq α] {xs ys : List α} {k : Nat} (h : xs.take k = ys.take k) (hx : xs.length ≤ k) (hy : ys.length ≤ k) : (xs == ys) = true := by
  rw [List.take_of_length_le hx, List.take_of_length_le hy] at h; simp [h]
def markL (mk : Int → α → α) (f : α → Nat) : Int → List α → List α
  | _, [] => []
  | q, x :: r => mk q x :: markL mk f (q + f x) r
theorem markL_length (mk : Int → α → α) (f : α → Nat) (xs : List α) : ∀ q, (markL mk f q xs).length = xs.length := by
  induction xs with
  | nil => intro q; rfl
  | cons x r ih => intro q; simp [markL, ih]
theorem markL_append (mk : Int → α → α) (f : α → Nat) (x : α) (xs : List α) : ∀ q, markL mk f q (xs ++ [x]) = markL mk f q xs ++ [mk (q + ((xs.map f).sum : Nat)) x] := by
  induction xs with
  | nil => intro q; simp [markL]
  | cons y r ih =>
    intro q
    simp only [List.cons_append, markL, ih, List.map_cons, List.sum_cons]
    congr 4
    omega
/-- What stands when k elements have been marked. -/
def markK (mk : Int → α → α) (f : α → Nat) (q : Int) (xs : List α) (k : Nat) : List α := markL mk f q (xs.take k) ++ xs.drop k
theorem markK_get {mk : Int → α → α} {f : α → Nat} {q : Int} {xs : List α} {k : Nat} {x : α} (h : xs[k]? = some x) : (markK mk f q xs k)[k]? = some x := by
  have hk := get_lt h
  have hl : (markL mk f q (xs.take k)).length = k := by rw [markL_length, List.length_take]; omega
  unfold markK
  rw [List.getElem?_append_right (by omega), hl, Nat.sub_self, List.getElem?_drop]
  simpa using h
theorem markK_set {mk : Int → α → α} {f : α → Nat} {q : Int} {xs : List α} {k : Nat} {x : α} (h : xs[k]? = some x) : (markK mk f q xs k).set k (mk (q + psum f xs k) x) = markK mk f q xs (k + 1) := by
  have hk := get_lt h
  have hl : (markL mk f q (xs.take k)).length = k := by rw [markL_length, List.length_take]; omega
  have hd : xs.drop k = x :: xs.drop (k + 1) := by
    obtain ⟨h1, h2⟩ := List.getElem?_eq_some_iff.1 h
    rw [List.drop_eq_getElem_cons h1, h2]
  have ht : xs.take (k + 1) = xs.take k ++ [x] := by rw [List.take_add_one, h]; rfl
  unfold markK
  rw [List.set_append_right _ _ (by omega), hl, Nat.sub_self, hd, List.set_cons_zero, ht, markL_append]
  unfold psum
  simp
theorem markK_zero (mk : Int → α → α) (f : α → Nat) (q : Int) (xs : List α) : markK mk f q xs 0 = xs := by simp [markK, markL]
theorem markK_all (mk : Int → α → α) (f : α → Nat) (q : Int) (xs : List α) : markK mk f q xs xs.length = markL mk f q xs := by simp [markK]
theorem markK_length (mk : Int → α → α) (f : α → Nat) (q : Int) (xs : List α) (k : Nat) : (markK mk f q xs k).length = xs.length := by
  unfold markK; rw [List.length_append, markL_length, ← List.length_append, List.take_append_drop]
def heldL (hf : Int → α → Int) : Int → List α → Int
  | q, [] => q
  | q, x :: r => if hf q x < 0 then -1 else heldL hf (hf q x) r
theorem heldL_drop {hf : Int → α → Int} {q : Int} {xs : List α} {k : Nat} {x : α} (h : xs[k]? = some x) : heldL hf q (xs.drop k) = if hf q x < 0 then -1 else heldL hf (hf q x) (xs.drop (k + 1)) := by
  obtain ⟨h1, h2⟩ := List.getElem?_eq_some_iff.1 h
  rw [List.drop_eq_getElem_cons h1, h2]; rfl
theorem heldL_mark {hf : Int → α → Int} {mk : Int → α → α} {f : α → Nat} (hh : ∀ q x, 0 ≤ q → hf q (mk q x) = q + f x) (xs : List α) : ∀ q, 0 ≤ q → heldL hf q (markL mk f q xs) = q + ((xs.map f).sum : Nat) := by
  induction xs with
  | nil => intro q _; simp [heldL, markL]
  | cons x r ih =>
    intro q hq
    simp only [markL, heldL, hh q x hq, List.map_cons, List.sum_cons]
    rw [if_neg (by omega), ih _ (by omega)]
    omega
end
def tot1 (xs : List Int) : Nat := xs.length
def sum2 (xss : List (List Int)) : Nat := (xss.map List.length).sum
def tot2 (xss : List (List Int)) : Nat := totL List.length xss
def sum3 (x3 : List (List (List Int))) : Nat := (x3.map sum2).sum
def tot3 (x3 : List (List (List Int))) : Nat := totL tot2 x3
def mark1 (q : Int) (xs : List Int) : List Int := marks q xs.length
def mark2 (q : Int) (xss : List (List Int)) : List (List Int) := markL mark1 List.length q xss
def mark3 (q : Int) (x3 : List (List (List Int))) : List (List (List Int)) := markL mark2 sum2 q x3
def held2 (q : Int) (xss : List (List Int)) : Int := heldL heldI q xss
def held3 (q : Int) (x3 : List (List (List Int))) : Int := heldL held2 q x3
theorem heldI_mark1 (q : Int) (xs : List Int) (h : 0 ≤ q) : heldI q (mark1 q xs) = q + xs.length := heldI_marks _ _
theorem held2_mark2 (q : Int) (xss : List (List Int)) (h : 0 ≤ q) : held2 q (mark2 q xss) = q + sum2 xss := heldL_mark heldI_mark1 xss q h
theorem held3_mark3 (q : Int) (x3 : List (List (List Int))) (h : 0 ≤ q) : held3 q (mark3 q x3) = q + sum3 x3 := heldL_mark held2_mark2 x3 q h
theorem sum2_le_tot2 (xss : List (List Int)) : sum2 xss ≤ tot2 xss := by unfold sum2 tot2 totL; omega
theorem sum3_le_tot3 (x3 : List (List (List Int))) : sum3 x3 ≤ tot3 x3 := by
  unfold sum3 tot3 totL
  induction x3 with
  | nil => simp
  | cons x r ih => simp only [List.map_cons, List.sum_cons, List.length_cons]; have := sum2_le_tot2 x; omega

/-- Every length is one that Go knows. -/
def Big2 (xss : List (List Int)) : Prop := xss.length ≤ 9223372036854775807 ∧ ∀ xs ∈ xss, xs.length ≤ 9223372036854775807
def Big3 (x3 : List (List (List Int))) : Prop := x3.length ≤ 9223372036854775807 ∧ ∀ xss ∈ x3, Big2 xss
theorem szI_ok {l : Int} {n : Nat} (h : ¬ l - n < 0) : szI l n = l - n := if_neg h
theorem szI_no {l : Int} {n : Nat} (h : l - n < 0) : szI l n = -1 := if_pos h

/-! ### walks -/
theorem rows2_info : (Tryz.prog.info? 29).map (fun i => (i.zero, i.size, i.bytes)) = some (some (.slice none 0 0), 1, 24) := by kernel_rfl

/-- It is marked: it holds q, q + 1, .. . -/
def MrkE {α : Type} (E : Own α) (mk : Int → α → α) (f : α → Nat) (w : World) (v : Value) (x : α) (fp : Nat → Prop) (q : Int) (e : Ending) (w' : World) : Prop :=
  e = .returned (.int .i64 (q + f x)) ∧ E w' v (mk q x) fp ∧ Wr w w' fp
theorem mrkE1 {w w' : World} {v : Value} {xs : List Int} {fp : Nat → Prop} {q : Int} {e : Ending} (h : Mrk w 0 v xs q e w') (h1 : E1 w v xs fp) (hq : 0 ≤ q) (hq1 : q ≤ 1000000000) (hn : xs.length ≤ 1048576) : MrkE E1 mark1 List.length w v xs fp q e w' := by
  obtain ⟨h2, h3, h4⟩ := h
  refine ⟨h2, ⟨h3, ?_, h1.fp_, fun b hb => Nat.lt_of_lt_of_le (h1.bd b hb) h4.size⟩, Wr.of_grown h4 fun b hb => h1.fp_ b hb⟩
  intro x hx
  simp only [mark1, marks, List.mem_map, List.mem_range] at hx
  obtain ⟨j, hj, rfl⟩ := hx
  exact ⟨by omega, by omega⟩
end Go.Proofs.YtbpihnpakolooaaGreatDoor
