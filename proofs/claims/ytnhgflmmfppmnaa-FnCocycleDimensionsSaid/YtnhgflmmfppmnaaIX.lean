
/- Bounds of ranks, the steps of a place's number, and what CocycleDimension returns; no function of the program is walked here. -/
import Derived.Test.YtnhgflmmfppmnaaCD5
namespace Go.Proofs.Ytnhgflmmfppmnaa
open Go Go.RowKit Grp Rk
set_option linter.unusedSimpArgs false
set_option linter.unusedVariables false
theorem hasRk_le {p : Int} {m : Nat} {G : Vec → Prop} {k : Nat} (h : HasRk p m G k) : k ≤ m := by
  obtain ⟨R, l, hE, _, _⟩ := h
  have h1 := nodup_le ((List.range k).map l) (List.range m) (by
    refine List.pairwise_map.2 ?_
    refine List.Pairwise.imp_of_mem (R := fun a b => a ≠ b) (fun {a b} ha hb hne e => hne (hE.inj a b (List.mem_range.1 ha) (List.mem_range.1 hb) e)) List.nodup_range) (by
    intro x hx
    obtain ⟨i, hi, rfl⟩ := List.mem_map.1 hx
    exact List.mem_range.2 (hE.lt i (List.mem_range.1 hi)))
  simpa using h1
/-- The steps of a place's number. -/
theorem ix_chain {m a b c : Nat} (hm : m ≤ 5) (ha : 1 ≤ a) (ha' : a ≤ m) (hb : 1 ≤ b) (hb' : b ≤ m) (hc : 1 ≤ c) (hc' : c ≤ m) :
    ∃ B1 B2 B3 B4 B5 B6 : Nat, IntKind.i64.wrap ((a : Int) - 1) = (B1 : Int) ∧ IntKind.i64.wrap ((B1 : Int) * (m : Int)) = (B2 : Int) ∧ IntKind.i64.wrap ((B2 : Int) + (b : Int)) = (B3 : Int) ∧ IntKind.i64.wrap ((B3 : Int) - 1) = (B4 : Int) ∧
      IntKind.i64.wrap ((B4 : Int) * (m : Int)) = (B5 : Int) ∧ IntKind.i64.wrap ((B5 : Int) + (c : Int)) = (B6 : Int) ∧ IntKind.i64.wrap ((B6 : Int) - 1) = (ix m a b c : Int) := by
  have h2 : (a - 1) * m ≤ 5 * 5 := Nat.mul_le_mul (by omega) hm
  have h5 : ((a - 1) * m + (b - 1)) * m ≤ 30 * 5 := Nat.mul_le_mul (by omega) hm
  refine ⟨a - 1, (a - 1) * m, (a - 1) * m + b, (a - 1) * m + (b - 1), ((a - 1) * m + (b - 1)) * m, ((a - 1) * m + (b - 1)) * m + c, ?_, ?_, ?_, ?_, ?_, ?_, ?_⟩
  · rw [wr64 _ ⟨by omega, by omega⟩]; omega
  · rw [← Int.natCast_mul]; exact wr64 _ ⟨by omega, by omega⟩
  · rw [wr64 _ ⟨by omega, by omega⟩]; omega
  · rw [wr64 _ ⟨by omega, by omega⟩]; omega
  · rw [← Int.natCast_mul]; exact wr64 _ ⟨by omega, by omega⟩
  · rw [wr64 _ ⟨by omega, by omega⟩]; omega
  · unfold ix
    rw [wr64 _ ⟨by omega, by omega⟩]; omega
/-- What CocycleDimension returns. -/
noncomputable def cdR (os : List Int) (p : Int) : Int := if spK os p = 0 then (((((prodL os).toNat - 1) * ((prodL os).toNat - 1) * ((prodL os).toNat - 1) : Nat) : Int) - (rkN p (((prodL os).toNat - 1) * ((prodL os).toNat - 1) * ((prodL os).toNat - 1)) (EqG os p (prodL os).toNat) : Int)) else 0
end Go.Proofs.Ytnhgflmmfppmnaa
