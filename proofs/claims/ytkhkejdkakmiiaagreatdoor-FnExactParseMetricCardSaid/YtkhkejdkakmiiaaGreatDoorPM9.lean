
/- What ParseMetric returns, plain: both readings of a text agree. -/
import Derived.Test.YtkhkejdkakmiiaaGreatDoorPM8
import Derived.Test.YtkhkejdkakmiiaaGreatDoorEa
import Derived.Test.YtkhkejdkakmiiaaGreatDoorKM
namespace Go.Proofs.YtkhkejdkakmiiaaGreatDoor
open Go Go.RowKit Go.Shelf Grp
set_option linter.unusedSimpArgs false
set_option linter.unusedVariables false
set_option maxRecDepth 100000
theorem bs_eq {a b : ByteArray} (h : a.data.toList = b.data.toList) : a = b := by
  apply ByteArray.ext
  exact Array.toList_inj.1 h
theorem bs_mk (a : ByteArray) : (⟨a.data.toList.toArray⟩ : ByteArray) = a := bs_eq (by simp)
theorem decDigits_len {n : Nat} : ∀ k, 1 ≤ k → n < 10 ^ k → (Lib.decDigits n).length ≤ k := by
  induction n using Nat.strongRecOn with
  | ind n ih =>
    intro k hk h
    by_cases h1 : n < 10
    · rw [Lib.decDigits_one h1]; simpa using hk
    · rw [decDigits_last h1, List.length_append, List.length_singleton]
      obtain ⟨k, rfl⟩ : ∃ j, k = j + 1 := ⟨k - 1, by omega⟩
      rw [Nat.pow_succ] at h
      have hk1 : 1 ≤ k := by
        rcases Nat.eq_zero_or_pos k with rfl | h2
        · omega
        · exact h2
      have := ih (n / 10) (by omega) k hk1 (by omega)
      omega
theorem decDigits_head {n : Nat} (h : 1 ≤ n) : (Lib.decDigits n).head? ≠ some 48 := by
  induction n using Nat.strongRecOn with
  | ind n ih =>
    by_cases h1 : n < 10
    · rw [Lib.decDigits_one h1]
      intro e
      have e2 : UInt8.ofNat (48 + n) = 48 := by simpa using e
      have := dig_toNat h1
      rw [e2] at this
      have e3 : (48 : UInt8).toNat = 48 := rfl
      omega
    · rw [decDigits_last h1, List.head?_append]
      intro e
      have h2 := ih (n / 10) (by omega) (by omega)
      cases hq : Lib.decDigits (n / 10) with
      | nil => exact absurd hq (decDigits_ne _)
      | cons a b => rw [hq] at e h2; exact h2 (by simpa using e)
theorem decL_nat (n : Nat) : decL (n : Int) = Lib.decDigits n := by unfold decL; rw [Lib.itoa_nonneg]
theorem lv_dec {n : Nat} (h : n < 1000000000) : lv ⟨(decL (n : Int)).toArray⟩ = n := by
  rw [decL_nat]
  have h1 : lvB (Lib.decDigits n) = true := by
    unfold lvB
    have e1 := decDigits_len (n := n) 9 (by omega) (by omega)
    have e2 : (Lib.decDigits n).isEmpty = false := by
      have := decDigits_ne n
      cases h : Lib.decDigits n with
      | nil => exact absurd h this
      | cons a b => rfl
    have e3 : (Lib.decDigits n).all isDg = true := List.all_eq_true.2 (decDigits_dg n)
    have e4 : (decide (1 < (Lib.decDigits n).length) && (Lib.decDigits n).head? == some 48) = false := by
      by_cases hn : n < 10
      · rw [Lib.decDigits_one hn]; rfl
      · have := decDigits_head (n := n) (by omega)
        have e5 : ((Lib.decDigits n).head? == some 48) = false := by rw [beq_eq_false_iff_ne]; exact this
        rw [e5, Bool.and_false]
    rw [e2, e3, e4, decide_eq_true e1]
    rfl
  unfold lv
  simp only [List.toList_toArray, h1, if_true, valD_dec]
theorem rd_dec {n : Nat} (h : n < 1000000000) : rdV ⟨(decL (n : Int)).toArray⟩ = n ∧ rdB ⟨(decL (n : Int)).toArray⟩ = true := by
  have hp := parse_dec h
  unfold rdV rdB
  simp only [List.toList_toArray, decL_nat, hp]
  refine ⟨trivial, ?_⟩
  rw [beq_iff_eq]
  unfold dec
  rw [Lib.itoa_nonneg]
theorem lnL_join {xs : List Int} (h : xs ≠ []) (h0 : ∀ x ∈ xs, 0 ≤ x ∧ x < 1000000000) : lnL (joinT xs) = xs := by
  have hs : spl 32 (joinT xs) = xs.map decL := by
    unfold joinT
    refine spl_join 32 _ (by simpa using h) fun w hw => ?_
    obtain ⟨x, hx, rfl⟩ := List.mem_map.1 hw
    obtain ⟨n, rfl⟩ : ∃ n : Nat, x = n := ⟨x.toNat, by have := h0 x hx; omega⟩
    exact dec_no (.inl rfl)
  unfold lnL
  rw [hs, List.map_map]
  conv => rhs; rw [← List.map_id xs]
  refine List.map_congr_left fun x hx => ?_
  have := h0 x hx
  obtain ⟨n, rfl⟩ : ∃ n : Nat, x = n := ⟨x.toNat, by omega⟩
  exact lv_dec (by omega)
theorem wds_data (s : ByteArray) : (wds s).map (fun x => x.data.toList) = Lib.split s.data.toList [32] := by
  unfold wds
  rw [show (fun x : ByteArray => x.data.toList) = (·.data.toList) from rfl, Lib.splitB_data]
  rfl
theorem wds_join {xs : List Int} (h : xs ≠ []) (h0 : ∀ x ∈ xs, 0 ≤ x) : wds ⟨(joinT xs).toArray⟩ = xs.map fun x => ⟨(decL x).toArray⟩ := by
  have e := wds_data ⟨(joinT xs).toArray⟩
  simp only [List.toList_toArray] at e
  rw [split_jb h h0] at e
  have hinj : ∀ (a b : List ByteArray), a.map (fun x => x.data.toList) = b.map (fun x => x.data.toList) → a = b := by
    intro a
    induction a with
    | nil => intro b h; cases b with
      | nil => rfl
      | cons y r => simp at h
    | cons x r ih =>
      intro b h
      cases b with
      | nil => simp at h
      | cons y t =>
        simp only [List.map_cons, List.cons.injEq] at h
        rw [bs_eq h.1, ih t h.2]
  refine hinj _ _ (e.trans ?_)
  rw [List.map_map]
  rfl
theorem ri_join {xs : List Int} (h : xs ≠ []) (h0 : ∀ x ∈ xs, 0 ≤ x ∧ x < 1000000000) : riB ⟨(joinT xs).toArray⟩ = true ∧ riL ⟨(joinT xs).toArray⟩ = xs := by
  have e := wds_join h fun x hx => (h0 x hx).1
  have h1 : riB ⟨(joinT xs).toArray⟩ = true := by
    unfold riB
    rw [e]
    refine List.all_eq_true.2 fun y hy => ?_
    obtain ⟨x, hx, rfl⟩ := List.mem_map.1 hy
    have := h0 x hx
    obtain ⟨n, rfl⟩ : ∃ n : Nat, x = n := ⟨x.toNat, by omega⟩
    exact (rd_dec (by omega)).2
  refine ⟨h1, ?_⟩
  unfold riL
  rw [if_pos h1, e, List.map_map]
  conv => rhs; rw [← List.map_id xs]
  refine List.map_congr_left fun x hx => ?_
  have := h0 x hx
  obtain ⟨n, rfl⟩ : ∃ n : Nat, x = n := ⟨x.toNat, by omega⟩
  exact (rd_dec (by omega)).1
/-! ### the words of a list of numbers -/
theorem rdB_ne {x : ByteArray} (h : rdB x = true) : 1 ≤ x.size := by
  unfold rdB at h
  cases hp : Lib.parseIntB 64 x.data.toList with
  | ok v =>
    rw [hp] at h
    simp only [beq_iff_eq] at h
    rcases Nat.eq_zero_or_pos x.size with h0 | h0
    · exfalso
      have e : x.data.toList = [] := List.eq_nil_of_length_eq_zero (by rw [← Lib.size_eq]; exact h0)
      rw [e] at hp
      revert hp
      simp [Lib.parseIntB]
    · exact h0
  | _ => rw [hp] at h; cases h
theorem splitB_many : ∀ (k : Nat) (s : ByteArray), (∀ x ∈ Lib.splitB sp32 0 k s, 1 ≤ x.size) → (Lib.splitB sp32 0 k s).length ≤ s.size := by
  intro k
  induction k with
  | zero => intro s h; rw [Lib.splitB_zero] at h ⊢; simpa using h s (by simp)
  | succ k ih =>
    intro s h
    unfold Lib.splitB at h ⊢
    split
    · rename_i hc
      rw [if_pos hc] at h
      simpa using h s (by simp)
    · rename_i hc
      rw [if_neg hc] at h
      have h1 := h _ (List.mem_cons_self ..)
      have h2 := ih _ fun x hx => h x (List.mem_cons_of_mem _ hx)
      rw [ByteArray.size_extract] at h1 h2
      have e : sp32.size = 1 := rfl
      rw [List.length_cons]
      omega
theorem riL_len (s : ByteArray) : (riL s).length ≤ s.size := by
  unfold riL
  by_cases h : riB s = true
  · rw [if_pos h, List.length_map]
    refine splitB_many _ s fun x hx => rdB_ne ?_
    unfold riB at h
    exact List.all_eq_true.1 h x hx
  · rw [if_neg h]; exact Nat.zero_le _
/-! ### the two readings -/
def c59 : ByteArray := ⟨#[59]⟩
def c58 : ByteArray := ⟨#[58]⟩
def cut1 (s c : ByteArray) : ByteArray := ⟨(Lib.cut s.data.toList c.data.toList).1.toArray⟩
def cut2 (s c : ByteArray) : ByteArray := ⟨(Lib.cut s.data.toList c.data.toList).2.1.toArray⟩
/-- The program's reading. -/
def pgX (s : ByteArray) : metric_T := (riL (cut1 s c59), rdV (cut1 (cut2 s c59) c58), riL (cut2 (cut2 s c59) c58))
/-- The reference's reading. -/
def rfX (s : ByteArray) : Option metric_T := match spl 59 s.data.toList with
  | [a, b] => match spl 58 b with
    | [d, e] => some (lnL a, lv ⟨d.toArray⟩, lnL e)
    | _ => none
  | _ => none
def Txt (s : ByteArray) (x : metric_T) : Prop := isM x.1 x.2.1 x.2.2 = true ∧ metText x.1 x.2.1 x.2.2 = s
structure Small (x : metric_T) : Prop where
  o : ∀ y ∈ x.1, 0 ≤ y ∧ y < 1000000000
  n : x.1 ≠ []
  d : 0 ≤ x.2.1 ∧ x.2.1 < 1000000000
  v : ∀ y ∈ x.2.2, 0 ≤ y ∧ y < 1000000000
  m : x.2.2 ≠ []
theorem small_of {x : metric_T} (h : isM x.1 x.2.1 x.2.2 = true) : Small x := by
  have hok := (isM_iff.1 h).ok
  have d1 := hok.d1
  have d2 := hok.d2
  have hl := hok.len
  have hp := prodL_pos hok.g.pos
  refine ⟨fun y hy => ?_, fun e => ?_, ⟨by omega, by omega⟩, fun y hy => ?_, fun e => ?_⟩
  · have := hok.g.m2 y hy; have := hok.g.m16 y hy; omega
  · have := hok.g.l1; rw [e] at this; simp at this
  · have := hok.rng y hy; omega
  · rw [e] at hl; simp at hl; omega
theorem rfX_txt {s : ByteArray} {x : metric_T} (h : Txt s x) : rfX s = some x := by
  obtain ⟨h1, rfl⟩ := h
  have hS := small_of h1
  have hd : 58 ∉ decL x.2.1 ∧ 59 ∉ decL x.2.1 := by
    obtain ⟨n, hn⟩ : ∃ n : Nat, x.2.1 = n := ⟨x.2.1.toNat, by have := hS.d; omega⟩
    rw [hn]
    exact ⟨dec_no (.inr (.inl rfl)), dec_no (.inr (.inr rfl))⟩
  have e1 : spl 59 (metText x.1 x.2.1 x.2.2).data.toList = [joinT x.1, decL x.2.1 ++ 58 :: joinT x.2.2] := by
    rw [metText_data]
    unfold metB
    rw [spl_cut 59 _ _ (joinT_no (fun y hy => (hS.o y hy).1) (.inr rfl)), spl_word 59 _ (fun h => by
      rcases List.mem_append.1 h with h | h
      · exact hd.2 h
      · rcases List.mem_cons.1 h with h | h
        · exact absurd h (by decide)
        · exact joinT_no (fun y hy => (hS.v y hy).1) (.inr rfl) h)]
  have e2 : spl 58 (decL x.2.1 ++ 58 :: joinT x.2.2) = [decL x.2.1, joinT x.2.2] := by
    rw [spl_cut 58 _ _ hd.1, spl_word 58 _ (joinT_no (fun y hy => (hS.v y hy).1) (.inl rfl))]
  have e3 : lv ⟨(decL x.2.1).toArray⟩ = x.2.1 := by
    obtain ⟨n, hn⟩ : ∃ n : Nat, x.2.1 = n := ⟨x.2.1.toNat, by have := hS.d; omega⟩
    have := hS.d
    rw [hn]
    exact lv_dec (by omega)
  unfold rfX
  rw [e1]
  simp only [e2, lnL_join hS.n hS.o, lnL_join hS.m hS.v, e3]
theorem pg_txt {s : ByteArray} {x : metric_T} (h : Txt s x) : pgX s = x ∧ riB (cut1 s c59) = true ∧ rdB (cut1 (cut2 s c59) c58) = true ∧ riB (cut2 (cut2 s c59) c58) = true := by
  obtain ⟨h1, rfl⟩ := h
  have hS := small_of h1
  have e0 : cut1 (metText x.1 x.2.1 x.2.2) c59 = ⟨(joinT x.1).toArray⟩ ∧ cut2 (metText x.1 x.2.1 x.2.2) c59 = ⟨(decL x.2.1 ++ 58 :: joinT x.2.2).toArray⟩ := by
    unfold cut1 cut2
    rw [metText_data, show c59.data.toList = [59] from rfl, met_cut1 (fun y hy => (hS.o y hy).1)]
    exact ⟨rfl, rfl⟩
  have e1 : cut1 ⟨(decL x.2.1 ++ 58 :: joinT x.2.2).toArray⟩ c58 = ⟨(decL x.2.1).toArray⟩ ∧ cut2 ⟨(decL x.2.1 ++ 58 :: joinT x.2.2).toArray⟩ c58 = ⟨(joinT x.2.2).toArray⟩ := by
    unfold cut1 cut2
    rw [show c58.data.toList = [58] from rfl, List.toList_toArray, met_cut2 hS.d.1]
    exact ⟨rfl, rfl⟩
  have e3 : rdV ⟨(decL x.2.1).toArray⟩ = x.2.1 ∧ rdB ⟨(decL x.2.1).toArray⟩ = true := by
    obtain ⟨n, hn⟩ : ∃ n : Nat, x.2.1 = n := ⟨x.2.1.toNat, by have := hS.d; omega⟩
    have := hS.d
    rw [hn]
    exact rd_dec (by omega)
  unfold pgX
  rw [e0.1, e0.2, e1.1, e1.2, (ri_join hS.n hS.o).2, (ri_join hS.m hS.v).2, e3.1]
  exact ⟨rfl, (ri_join hS.n hS.o).1, e3.2, (ri_join hS.m hS.v).1⟩
open Classical in
/-- What both return. -/
noncomputable def pmB (s : ByteArray) : Bool := decide (∃ x, Txt s x)
noncomputable def pmX (s : ByteArray) : metric_T := if pmB s = true then pgX s else ([], 0, [])
noncomputable def pmC (s : ByteArray) : Int := if pmB s = true then 0 else 6
open Classical in
theorem pm_yes {s : ByteArray} {x : metric_T} (h : Txt s x) : pmX s = x ∧ pmC s = 0 := by
  have hb : pmB s = true := by unfold pmB; exact decide_eq_true ⟨x, h⟩
  unfold pmX pmC
  rw [if_pos hb, if_pos hb]
  exact ⟨(pg_txt h).1, rfl⟩
open Classical in
theorem pm_no {s : ByteArray} (h : ¬ ∃ x, Txt s x) : pmX s = ([], 0, []) ∧ pmC s = 6 := by
  have hb : ¬ pmB s = true := by unfold pmB; intro e; exact h (of_decide_eq_true e)
  unfold pmX pmC
  rw [if_neg hb, if_neg hb]
  exact ⟨rfl, rfl⟩
open Classical in
theorem pm_small {s : ByteArray} : (pmX s).1.length + (pmX s).2.2.length ≤ 20 := by
  by_cases h : ∃ x, Txt s x
  · obtain ⟨x, hx⟩ := h
    rw [(pm_yes hx).1]
    have hok := (isM_iff.1 hx.1).ok
    have := hok.lt
    have := hok.g.l4
    omega
  · rw [(pm_no h).1]; simp
end Go.Proofs.YtkhkejdkakmiiaaGreatDoor
