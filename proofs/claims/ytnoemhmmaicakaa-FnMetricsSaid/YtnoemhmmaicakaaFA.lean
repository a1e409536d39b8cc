
/- Squares and products of a tuple, told plainly, and the walk of formAt. -/
import Derived.Test.YtnoemhmmaicakaaSa
import Derived.Test.YtnoemhmmaicakaaBa
import Derived.WalkLawsBesides
namespace Go.Proofs.Ytnoemhmmaicakaa
open Go Go.RowKit Grp
set_option linter.unusedSimpArgs false
set_option linter.unusedVariables false

/-- 0 + 1 + .. + (n - 1). -/
def tri : Nat → Nat
  | 0 => 0
  | n + 1 => tri n + n
/-- The products of t with the numbers behind it, each times its factor. -/
def rowF (t : Int) : List Int → List Int → Int
  | y :: ts, p :: ps => p * t * y + rowF t ts ps
  | _, _ => 0
/-- Squares alone, products alone, both. -/
def fS : List Int → List Int → Int
  | t :: ts, s :: ss => s * t * t + fS ts ss
  | _, _ => 0
def fP : List Int → List Int → Int
  | [], _ => 0
  | t :: ts, ps => rowF t ts ps + fP ts (ps.drop ts.length)
def fA (tu sq pr : List Int) : Int := fS tu sq + fP tu pr
theorem rowF_snoc (t : Int) : ∀ (ts ps : List Int) (j : Nat), j < ts.length → j < ps.length → rowF t (ts.take (j + 1)) ps = rowF t (ts.take j) ps + gi ps j * t * gi ts j := by
  intro ts
  induction ts with
  | nil => intro ps j h; simp at h
  | cons y ts ih =>
    intro ps j h1 h2
    cases ps with
    | nil => simp at h2
    | cons p ps =>
      cases j with
      | zero => simp [rowF, gi]
      | succ j =>
        have := ih ps j (by simpa using h1) (by simpa using h2)
        simp only [List.take_succ_cons, rowF]
        rw [this]
        simp only [gi, List.getD_cons_succ]
        omega
theorem fS_snoc : ∀ (ts ss : List Int) (k : Nat), k < ts.length → k < ss.length → fS (ts.take (k + 1)) ss = fS (ts.take k) ss + gi ss k * gi ts k * gi ts k := by
  intro ts
  induction ts with
  | nil => intro ss k h; simp at h
  | cons t ts ih =>
    intro ss k h1 h2
    cases ss with
    | nil => simp at h2
    | cons s ss =>
      cases k with
      | zero => simp [fS, gi]
      | succ k =>
        have := ih ss k (by simpa using h1) (by simpa using h2)
        simp only [List.take_succ_cons, fS]
        rw [this]
        simp only [gi, List.getD_cons_succ]
        omega
theorem fP_drop {tu pr : List Int} {k : Nat} (hk : k < tu.length) : fP (tu.drop k) pr = rowF (gi tu k) (tu.drop (k + 1)) pr + fP (tu.drop (k + 1)) (pr.drop (tu.drop (k + 1)).length) := by
  rw [drop_gi hk]; rfl
theorem term_bd {s t u : Int} (s0 : 0 ≤ s) (s1 : s ≤ 55440) (t0 : 0 ≤ t) (t1 : t ≤ 16) (u0 : 0 ≤ u) (u1 : u ≤ 16) : 0 ≤ s * t ∧ s * t ≤ 887040 ∧ 0 ≤ s * t * u ∧ s * t * u ≤ 14192640 := by
  have e1 : 0 ≤ s * t := Int.mul_nonneg s0 t0
  have e2 : s * t ≤ 55440 * 16 := Int.mul_le_mul s1 t1 t0 (by omega)
  have e3 : 0 ≤ s * t * u := Int.mul_nonneg e1 u0
  have e4 : s * t * u ≤ 887040 * 16 := Int.mul_le_mul (by omega) u1 u0 (by omega)
  exact ⟨e1, by omega, e3, by omega⟩
theorem tri_le : ∀ n, n ≤ 4 → tri n ≤ 6 := by decide
theorem tri_drop {n k : Nat} (hk : k < n) : tri (n - k) = tri (n - (k + 1)) + (n - (k + 1)) := by
  obtain ⟨m, hm⟩ : ∃ m, n - (k + 1) = m := ⟨_, rfl⟩
  rw [hm, show n - k = m + 1 by omega]; rfl

theorem gi_dropn {xs : List Int} (m j : Nat) : gi (xs.drop m) j = gi xs (m + j) := by
  unfold gi; rw [List.getD_eq_getElem?_getD, List.getD_eq_getElem?_getD, List.getElem?_drop]
theorem fS_drop {tu sq : List Int} {k : Nat} (hk : k < tu.length) (hs : k < sq.length) : fS (tu.drop k) (sq.drop k) = gi sq k * gi tu k * gi tu k + fS (tu.drop (k + 1)) (sq.drop (k + 1)) := by
  rw [drop_gi hk, drop_gi hs]; rfl
set_option maxHeartbeats 4000000 in
theorem formAt_any (w : World) (B : Nat) (A : Option Addr) (n c : Nat) (tu : List Int) (A' : Option Addr) (n' c' : Nat) (sq : List Int) (A'' : Option Addr) (n'' c'' : Nat) (pr : List Int)
    (h : Sl w B A n c tu) (h' : Sl w B A' n' c' sq) (h'' : Sl w B A'' n'' c'' pr) (hn : n ≤ 4) (hn' : n' = n) (hn'' : n'' = tri n) (ht : ∀ k, k < n → 0 ≤ gi tu k ∧ gi tu k ≤ 16) (hs : ∀ v ∈ sq, 0 ≤ v ∧ v ≤ 55440) (hp : ∀ v ∈ pr, 0 ≤ v ∧ v ≤ 55440) :
    Calls Try.prog 58 #[.slice A n c, .slice A' n' c', .slice A'' n'' c''] w (fun e w' => e = .returned (.int .i64 (fA tu sq pr)) ∧ 0 ≤ fA tu sq pr ∧ fA tu sq pr ≤ 141926400 ∧ Dr w w') := by
  obtain rfl := h.len
  subst hn'
  subst hn''
  have hl' : sq.length = tu.length := h'.len
  have hl'' : pr.length = tri tu.length := h''.len
  have HL1 := hide hl'
  have HL2 := hide hl''
  have HT := hide ht
  have HS := hide hs
  have HP := hide hp
  have htri := tri_le _ hn
  obtain ⟨T, hT⟩ : ∃ T, tri tu.length = T := ⟨_, rfl⟩
  rw [hT] at h'' htri HL2
  rw [hT]
  have HTT := hide hT
  clear hl' hl'' ht hs hp hT
  go_enter Try.func58, Try.ntmps58
  go_wp2_with fail
  go_loop [7, 8, 15] (fun s a i => ∃ (k q : Nat) (S : Int), k ≤ tu.length ∧ i = .int .i64 k ∧ a = .int .i64 q ∧ s = .int .i64 S ∧ 0 ≤ S ∧ S ≤ 14192640 * (k + q) ∧ q + tri (tu.length - k) = T ∧ fA tu sq pr = S + (fS (tu.drop k) (sq.drop k) + fP (tu.drop k) (pr.drop q))) (fun _ _ i => tu.length - (intOf i).toNat)
  case atStart => exact ⟨0, 0, 0, by omega, rfl, rfl, rfl, by omega, by omega, by rw [Nat.sub_zero, HTT.out, Nat.zero_add], by simp [fA]⟩
  case round =>
    obtain ⟨k, q, S, hk, rfl, rfl, rfl, hS0, hS1, hq, hf⟩ := hrel
    have HF := hide hf
    have HQ := hide hq
    clear hf
    have hqT : q ≤ T := by omega
    clear hq
    by_cases hlt : k < tu.length
    · obtain ⟨b, off, rfl, hb, hc⟩ := h.at_ (by omega)
      obtain ⟨b', off', rfl, hb', hc'⟩ := h'.at_ (by omega)
      have c1 := hc k hlt
      have c2 := hc' k hlt
      have hcap := h.cap
      have hcH := hide hc
      clear hc hc'
      obtain ⟨t0, t1⟩ := HT.out k hlt
      obtain ⟨s0, s1⟩ := HS.out _ (gi_mem (show k < sq.length by rw [HL1.out]; exact hlt))
      have hfs := hide (fS_drop (sq := sq) hlt (by rw [HL1.out]; exact hlt))
      have hfp := hide (fP_drop (pr := pr.drop q) hlt)
      have htd := tri_drop hlt
      have hq0 := HQ.out
      obtain ⟨t, et⟩ : ∃ t, gi tu k = t := ⟨_, rfl⟩
      obtain ⟨s, es⟩ : ∃ s, gi sq k = s := ⟨_, rfl⟩
      rw [et] at c1 t0 t1 hfs hfp
      rw [es] at c2 s0 s1 hfs
      clear et es
      obtain ⟨g1, g2, g3, g4⟩ := term_bd s0 s1 t0 t1 t0 t1
      obtain ⟨u, eu⟩ : ∃ u, s * t = u := ⟨_, rfl⟩
      rw [eu] at g1 g2 g3 g4 hfs
      have w1 : IntKind.i64.wrap (s * t) = u := by rw [eu]; exact wrap_in (by omega) (by omega)
      obtain ⟨P, eP⟩ : ∃ P, u * t = P := ⟨_, rfl⟩
      rw [eP] at g3 g4 hfs
      have w2 : IntKind.i64.wrap (u * t) = P := by rw [eP]; exact wrap_in (by omega) (by omega)
      clear eu eP
      have w3 : IntKind.i64.wrap (S + P) = S + P := wrap_in (by omega) (by omega)
      have k1 : (k : Int) + 1 ≤ (tu.length : Int) := by omega
      have k2 : 0 ≤ (k : Int) + 1 := by omega
      obtain ⟨S1, hS1'⟩ : ∃ S1, S + P = S1 := ⟨_, rfl⟩
      have hS10 : 0 ≤ S1 := by omega
      have hS11 : S1 ≤ 14192640 * (k + 1 + q) := by omega
      rw [hS1'] at w3
      have HF1 := hide (show fA tu sq pr = S1 + (fS (tu.drop (k + 1)) (sq.drop (k + 1)) + (rowF t (tu.drop (k + 1)) (pr.drop q) + fP (tu.drop (k + 1)) ((pr.drop q).drop (tu.drop (k + 1)).length))) by rw [HF.out, hfs.out, hfp.out, ← hS1']; omega)
      obtain ⟨r, hr⟩ : ∃ r, tu.length - (k + 1) = r := ⟨_, rfl⟩
      rw [hr] at htd
      have HR := hide hr
      have HLD := hide (show (tu.drop (k + 1)).length = r by rw [List.length_drop, hr])
      have hrr : k + 1 + r = tu.length := by omega
      have hqT2 : q + r ≤ T := by omega
      have HQ2 := hide (show q + r + tri (tu.length - (k + 1)) = T by rw [hr]; omega)
      have HS1 := hide hS1'
      clear hS1' hr htd hq0
      by_cases hkn : k + 1 < tu.length
      · go_wp2_with fail
        go_loop [7, 8, 35] (fun s a i => ∃ (j e : Nat) (V : Int), j ≤ r ∧ i = .int .i64 j ∧ a = .int .i64 e ∧ s = .int .i64 V ∧ e = q + j ∧ 0 ≤ V ∧ V ≤ 14192640 * (k + 1 + e) ∧ V = S1 + rowF t ((tu.drop (k + 1)).take j) (pr.drop q)) (fun _ _ i => r - (intOf i).toNat)
        case atStart => exact ⟨0, q, S1, by omega, rfl, rfl, int_eq HS1.out, rfl, hS10, hS11, by simp [rowF]⟩
        case round =>
          obtain ⟨j, e, V, hj, rfl, rfl, rfl, he, hV0, hV1, hV⟩ := hrel
          have HV := hide hV
          clear hV
          by_cases hlj : j < r
          · have c3 : w.cell? ⟨b, off + (k + 1) + j, none⟩ = some (.int .i64 (gi tu (k + 1 + j))) := by rw [Nat.add_assoc]; exact hcH.out (k + 1 + j) (by omega)
            obtain ⟨y0, y1⟩ := HT.out (k + 1 + j) (by omega)
            have heT : e < T := by omega
            obtain ⟨b2, off2, rfl, hb2, hc2⟩ := h''.at_ (by omega)
            have c4 := hc2 e heT
            clear hc2
            obtain ⟨p0, p1⟩ := HP.out _ (gi_mem (show e < pr.length by rw [HL2.out]; exact heT))
            have hrs := hide (rowF_snoc t (tu.drop (k + 1)) (pr.drop q) j (by rw [HLD.out]; exact hlj) (by rw [List.length_drop, HL2.out]; omega))
            rw [gi_dropn, gi_dropn, ← he] at hrs
            obtain ⟨y, ey⟩ : ∃ y, gi tu (k + 1 + j) = y := ⟨_, rfl⟩
            obtain ⟨p, ep⟩ : ∃ p, gi pr e = p := ⟨_, rfl⟩
            rw [ey] at c3 y0 y1 hrs
            rw [ep] at c4 p0 p1 hrs
            clear ey ep
            obtain ⟨f1, f2, f3, f4⟩ := term_bd p0 p1 t0 t1 y0 y1
            obtain ⟨u2, eu2⟩ : ∃ u, p * t = u := ⟨_, rfl⟩
            rw [eu2] at f1 f2 f3 f4 hrs
            have v1 : IntKind.i64.wrap (p * t) = u2 := by rw [eu2]; exact wrap_in (by omega) (by omega)
            obtain ⟨P2, eP2⟩ : ∃ P, u2 * y = P := ⟨_, rfl⟩
            rw [eP2] at f3 f4 hrs
            have v2 : IntKind.i64.wrap (u2 * y) = P2 := by rw [eP2]; exact wrap_in (by omega) (by omega)
            clear eu2 eP2
            have v3 : IntKind.i64.wrap (V + P2) = V + P2 := wrap_in (by omega) (by omega)
            have HE := hide he
            clear he
            go_wp2_with fail
            go_round
            case rel => exact ⟨j + 1, e + 1, V + P2, by omega, by go_num, by go_num, rfl, by have := HE.out; omega, by omega, by omega, by rw [hrs.out, HV.out]; omega⟩
            case measure => simp [intOf] <;> omega
          · obtain rfl : j = r := by omega
            have hE := hide (show fA tu sq pr = V + (fS (tu.drop (k + 1)) (sq.drop (k + 1)) + fP (tu.drop (k + 1)) (pr.drop e)) by
              rw [HF1.out, HV.out, List.take_of_length_le (by rw [HLD.out]; omega), List.drop_drop, HLD.out, ← he]; omega)
            have HE2 := hide (show e + tri (tu.length - (k + 1)) = T by rw [he]; exact HQ2.out)
            clear he
            go_wp2_with fail
            go_round
            case rel => exact ⟨k + 1, e, V, by omega, by go_num, rfl, rfl, hV0, by omega, HE2.out, hE.out⟩
            case measure => simp [intOf] <;> omega
      · have hr0 : r = 0 := by omega
        have hkk : k + 1 = tu.length := by omega
        have hE := hide (show fA tu sq pr = S1 + (fS (tu.drop (k + 1)) (sq.drop (k + 1)) + fP (tu.drop (k + 1)) (pr.drop q)) by
          rw [HF1.out, hkk, List.drop_of_length_le (Nat.le_refl _)]; simp [rowF, fP])
        have HE2 := hide (show q + tri (tu.length - (k + 1)) = T by have := HQ2.out; rw [hr0] at this; exact this)
        have hz : tu.length - (k + 1) = 0 := by omega
        clear hkk
        by_cases hkc : k + 1 = c
        all_goals
          go_wp2_with fail
          refine wp_loop_rounds 1 ?_
          rw [rounds_succ]
          go_wp2_with fail
          go_round
          case rel => exact ⟨k + 1, q, S1, by omega, by go_num, rfl, int_eq HS1.out, hS10, by omega, HE2.out, hE.out⟩
          case measure => simp [intOf] <;> omega
    · obtain rfl : k = tu.length := by omega
      have hE := hide (show fA tu sq pr = S by rw [HF.out, List.drop_of_length_le (Nat.le_refl _)]; simp [fS, fP])
      go_wp2_with fail
      go_ret
      exact ⟨by rw [hE.out]; rfl, by rw [hE.out]; exact hS0, by rw [hE.out]; omega, Dr.refl _⟩
end Go.Proofs.Ytnoemhmmaicakaa
