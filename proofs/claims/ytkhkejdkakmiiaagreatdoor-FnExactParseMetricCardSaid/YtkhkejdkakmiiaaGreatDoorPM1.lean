
/- Texts of metrics, split: plain. -/
import Derived.Test.YtkhkejdkakmiiaaGreatDoorMT3
import Derived.Lib.SplitLaws
import Derived.Lib.CountLaws
import Derived.Lib.IndexBytes
import Derived.Lib.ParseIntB
namespace Go.Proofs.YtkhkejdkakmiiaaGreatDoor
open Go Go.RowKit
set_option linter.unusedSimpArgs false
set_option linter.unusedVariables false
theorem index_word (b : UInt8) (rest : List UInt8) : ∀ w : List UInt8, b ∉ w → Lib.index (w ++ b :: rest) [b] = w.length := by
  intro w
  rw [Lib.index_one]
  induction w with
  | nil => intro _; simp [Lib.indexByte]
  | cons x r ih =>
    intro h
    have hx : x ≠ b := fun e => h (by simp [e])
    have := ih (fun e => h (by simp [e]))
    simp [Lib.indexByte, hx, this]
    try omega
theorem index_no (b : UInt8) : ∀ w : List UInt8, b ∉ w → Lib.index w [b] = -1 := by
  intro w
  rw [Lib.index_one]
  induction w with
  | nil => intro _; rfl
  | cons x r ih =>
    intro h
    have hx : x ≠ b := fun e => h (by simp [e])
    have := ih (fun e => h (by simp [e]))
    simp [Lib.indexByte, hx, this]
theorem cut_word (b : UInt8) (w rest : List UInt8) (h : b ∉ w) : Lib.cut (w ++ b :: rest) [b] = (w, rest, true) := by
  unfold Lib.cut
  rw [index_word b rest w h, if_pos (by omega)]
  simp
theorem split_join (b : UInt8) : ∀ ws : List (List UInt8), ws ≠ [] → (∀ w ∈ ws, b ∉ w) → Lib.split (Lib.join ws [b]) [b] = ws := by
  intro ws
  induction ws with
  | nil => intro h; exact absurd rfl h
  | cons w r ih =>
    intro _ h
    have hw := h w (by simp)
    cases r with
    | nil =>
      rw [Lib.join_one]
      unfold Lib.split
      rw [Lib.count_miss (index_no b w hw)]
      rfl
    | cons z r =>
      have hi := ih (by simp) fun x hx => h x (by simp [hx])
      have hj : Lib.join (w :: z :: r) [b] = w ++ b :: Lib.join (z :: r) [b] := by simp [Lib.join, List.intercalate]
      have hx := index_word b (Lib.join (z :: r) [b]) w hw
      unfold Lib.split at hi ⊢
      rw [hj, Lib.count_hit (by simp) hx, Nat.add_comm 1, Lib.splitK, hx]
      have hd : (w ++ b :: Lib.join (z :: r) [b]).drop (w.length + [b].length) = Lib.join (z :: r) [b] := by simp
      rw [if_neg (by simp)]
      simp only [Int.toNat_natCast, hd, hi, Nat.add_zero]
      simp
/-! ### digits -/
def isDg (x : UInt8) : Bool := decide (48 ≤ x.toNat ∧ x.toNat ≤ 57)
theorem dig_toNat {r : Nat} (h : r < 10) : (UInt8.ofNat (48 + r)).toNat = 48 + r := by
  rw [UInt8.toNat_ofNat']; omega
theorem decDigits_dg (n : Nat) : ∀ x ∈ Lib.decDigits n, isDg x = true := by
  induction n using Nat.strongRecOn with
  | ind n ih =>
    intro x hx
    rw [Lib.decDigits] at hx
    split at hx
    · rename_i h
      rw [List.mem_singleton.1 hx]
      unfold isDg
      rw [dig_toNat h, decide_eq_true_eq]
      omega
    · rename_i h
      rcases List.mem_append.1 hx with hx | hx
      · exact ih (n / 10) (by omega) x hx
      · rw [List.mem_singleton.1 hx]
        unfold isDg
        rw [dig_toNat (by omega), decide_eq_true_eq]
        omega
theorem decDigits_ne (n : Nat) : Lib.decDigits n ≠ [] := by
  rw [Lib.decDigits]; split <;> simp
theorem decDigits_last {n : Nat} (h : ¬ n < 10) : Lib.decDigits n = Lib.decDigits (n / 10) ++ [UInt8.ofNat (48 + n % 10)] := by
  conv => lhs; rw [Lib.decDigits]
  rw [dif_neg h]
/-- What digits spell. -/
def valD (acc : Nat) (l : List UInt8) : Nat := l.foldl (fun a c => a * 10 + (c.toNat - 48)) acc
theorem valD_ge (l : List UInt8) : ∀ acc, acc ≤ valD acc l := by
  induction l with
  | nil => intro acc; exact Nat.le_refl _
  | cons c r ih =>
    intro acc
    have := ih (acc * 10 + (c.toNat - 48))
    unfold valD at this ⊢
    rw [List.foldl_cons]
    omega
theorem valD_dec (n : Nat) : valD 0 (Lib.decDigits n) = n := by
  induction n using Nat.strongRecOn with
  | ind n ih =>
    by_cases h : n < 10
    · rw [Lib.decDigits_one h]
      unfold valD
      simp only [List.foldl_cons, List.foldl_nil, dig_toNat h]
      omega
    · rw [decDigits_last h]
      have := ih (n / 10) (by omega)
      unfold valD at this ⊢
      rw [List.foldl_append, this]
      simp only [List.foldl_cons, List.foldl_nil, dig_toNat (show n % 10 < 10 by omega)]
      omega
theorem parse_dg (l : List UInt8) : ∀ acc, (∀ x ∈ l, isDg x = true) → valD acc l < 1000000000 → Lib.parseUintM (2 ^ 64 - 1) acc l = .ok (valD acc l) := by
  induction l with
  | nil => intro acc _ _; rfl
  | cons c r ih =>
    intro acc hd hv
    have hc := hd c (by simp)
    unfold isDg at hc
    rw [decide_eq_true_eq] at hc
    have hv' : valD (acc * 10 + (c.toNat - 48)) r < 1000000000 := hv
    have hg := valD_ge r (acc * 10 + (c.toNat - 48))
    rw [Lib.parseUintM, if_pos hc, if_neg (by omega), if_neg (by omega), ih _ (fun x hx => hd x (by simp [hx])) hv']
    rfl
theorem parse_dec {n : Nat} (h : n < 1000000000) : Lib.parseIntB 64 (Lib.decDigits n) = .ok (n : Int) := by
  have hd := decDigits_dg n
  have hp := parse_dg (Lib.decDigits n) 0 hd (by rw [valD_dec]; exact h)
  rw [valD_dec] at hp
  have hne := decDigits_ne n
  cases hl : Lib.decDigits n with
  | nil => exact absurd hl hne
  | cons c r =>
    rw [hl] at hp hd
    have hc := hd c (by simp)
    unfold isDg at hc
    rw [decide_eq_true_eq] at hc
    have h1 : ¬ (c.toNat = 43 ∨ c.toNat = 45) := by omega
    have h2 : ¬ c.toNat = 45 := by omega
    unfold Lib.parseIntB Lib.parseUintB
    have h3 : ¬ c.toNat = 43 := by omega
    simp only [h2, h3, or_self, if_false, hp, reduceCtorEq, not_false_eq_true, true_and, false_and]
    rw [if_neg (show ¬ 2 ^ (64 - 1) ≤ n by omega)]
/-- No byte of a number's text is a blank, a semicolon or a colon. -/
theorem dec_no {n : Nat} {b : UInt8} (hb : b = 32 ∨ b = 58 ∨ b = 59) : b ∉ decL (n : Int) := by
  unfold decL
  rw [Lib.itoa_nonneg]
  intro hx
  have := decDigits_dg n b hx
  unfold isDg at this
  rw [decide_eq_true_eq] at this
  rcases hb with rfl | rfl | rfl
  · have e : (32 : UInt8).toNat = 32 := rfl
    omega
  · have e : (58 : UInt8).toNat = 58 := rfl
    omega
  · have e : (59 : UInt8).toNat = 59 := rfl
    omega
theorem joinT_no {xs : List Int} (h0 : ∀ x ∈ xs, 0 ≤ x) {b : UInt8} (hb : b = 58 ∨ b = 59) : b ∉ joinT xs := by
  unfold joinT
  induction xs with
  | nil => simp [Lib.join_nil]
  | cons x r ih =>
    have hx := h0 x (by simp)
    obtain ⟨n, rfl⟩ : ∃ n : Nat, x = n := ⟨x.toNat, by omega⟩
    have h1 : b ∉ decL (n : Int) := dec_no (by rcases hb with h | h; exact .inr (.inl h); exact .inr (.inr h))
    cases r with
    | nil => rw [List.map_cons, List.map_nil, Lib.join_one]; exact h1
    | cons z r =>
      have hi := ih fun y hy => h0 y (by simp [hy])
      have hj : Lib.join ((((n : Int) :: z :: r)).map decL) [32] = decL (n : Int) ++ 32 :: Lib.join ((z :: r).map decL) [32] := by simp [Lib.join, List.intercalate]
      rw [hj]
      intro hm
      rcases List.mem_append.1 hm with hm | hm
      · exact h1 hm
      · rcases List.mem_cons.1 hm with hm | hm
        · rcases hb with rfl | rfl <;> exact absurd hm (by decide)
        · exact hi hm
/-- The words of a joined text. -/
theorem split_jb {xs : List Int} (h : xs ≠ []) (h0 : ∀ x ∈ xs, 0 ≤ x) : Lib.split (joinT xs) [32] = xs.map decL := by
  unfold joinT
  refine split_join 32 _ (by simpa using h) fun w hw => ?_
  obtain ⟨x, hx, rfl⟩ := List.mem_map.1 hw
  have := h0 x hx
  obtain ⟨n, rfl⟩ : ∃ n : Nat, x = n := ⟨x.toNat, by omega⟩
  exact dec_no (.inl rfl)
/-- The bytes of a metric's text. -/
def metB (os : List Int) (D : Int) (vs : List Int) : List UInt8 := joinT os ++ 59 :: (decL D ++ 58 :: joinT vs)
theorem metText_data (os : List Int) (D : Int) (vs : List Int) : (metText os D vs).data.toList = metB os D vs := by
  unfold metText metB jb dec decL
  simp
theorem met_cut1 {os : List Int} {D : Int} {vs : List Int} (h0 : ∀ x ∈ os, 0 ≤ x) : Lib.cut (metB os D vs) [59] = (joinT os, decL D ++ 58 :: joinT vs, true) := cut_word 59 _ _ (joinT_no h0 (.inr rfl))
theorem met_cut2 {D : Int} {vs : List Int} (hD : 0 ≤ D) : Lib.cut (decL D ++ 58 :: joinT vs) [58] = (decL D, joinT vs, true) := by
  obtain ⟨n, rfl⟩ : ∃ n : Nat, D = n := ⟨D.toNat, by omega⟩
  exact cut_word 58 _ _ (dec_no (.inr (.inl rfl)))
end Go.Proofs.YtkhkejdkakmiiaaGreatDoor
