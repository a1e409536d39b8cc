/- The walks of CountBicharacters, the program's and the reference's, and of its law. -/
import Derived.Test.YtkmnmcfpafopmaaW7
import Derived.Test.YtkmnmcfpafopmaaOpen
namespace Go.Proofs.Ytkmnmcfpafopmaa
open Go Go.RowKit
set_option linter.unusedSimpArgs false
set_option linter.unusedVariables false
def gg (a b m : Int) : Int := Int.gcd (Int.gcd a b) m
def rowL (m a c : Int) : List Int → Int
  | [] => c
  | b :: r => rowL m a (wrap64 (c * gg a b m)) r
def allL (m : Int) (os : List Int) (c : Int) : List Int → Int
  | [] => c
  | a :: r => allL m os (rowL m a c os) r

theorem gg_le {a b : Int} (ha : 1 ≤ a) : (Int.gcd a b : Int) ≤ a := Int.le_of_dvd (by omega) (Int.gcd_dvd_left ..)
theorem okL_rng {xs : List Int} (h : okL xs = true) {k : Nat} (hk : k < xs.length) : 1 ≤ gi xs k := by have := okL_gi h hk; omega

/-- Two results: a number and a code. -/
def Q2 (w : World) (a b : Int) (e : Ending) (w' : World) : Prop := e = .returned (.tuple #[.int .i64 a, .int .i64 b]) ∧ ∃ m, w' = w.drewN m
theorem Q2.d1 {w : World} {a b a' b' : Int} {m : Nat} (h1 : a' = a) (h2 : b' = b) : Q2 w a b (.returned (.tuple #[.int .i64 a', .int .i64 b'])) (w.drewN m) := ⟨by rw [h1, h2], m, rfl⟩

theorem codeO_ok {os : List Int} (h0 : codeO os 8 = 0) : okL os = true ∧ gsL 1 os ≤ 8 := by
  unfold codeO at h0
  by_cases h1 : gsz os = 0
  · rw [if_pos h1] at h0; omega
  · rw [if_neg h1] at h0
    have h2 := okOs_gsz.2 h1
    have h3 : gsz os = gsL 1 os := by
      unfold gsz; split
      · rename_i h; subst h; simp [gsz] at h1
      · rfl
    refine ⟨?_, ?_⟩
    · unfold okOs at h2
      cases e : okL os <;> simp_all
    · split at h0 <;> omega
theorem impl_CountB_any (w : World) (B : Nat) (A : Option Addr) (n c : Nat) (xs : List Int) (q : Int) (h : Sl w B A n c xs) (hn : n ≤ 1048576) (hb : codeO xs 8 = 0 → ∀ x ∈ xs, x ≤ 1000000) :
    Calls Try.prog 18 #[.slice A n c, .int .i64 q] w (Q2 w (if codeO xs 8 = 0 ∧ inB q 1 1000 = true then allL q xs 1 xs else 0) (if codeO xs 8 = 0 then (if inB q 1 1000 = true then 0 else 2) else codeO xs 8)) := by
  by_cases h0 : codeO xs 8 = 0
  · have k0 : (codeO xs 8 != 0) = false := by simpa using h0
    by_cases h1 : inB q 1 1000 = true
    · rw [if_pos ⟨h0, h1⟩, if_pos h0, if_pos h1]
      have H1 := hide h1
      have hq : 1 ≤ q ∧ q ≤ 1000 := by simpa [inB] using h1
      obtain ⟨hq1, hq2⟩ := hq
      have hok : okL xs = true := by
        have : gsz xs ≠ 0 := by intro e; unfold codeO at h0; rw [if_pos e] at h0; omega
        have := okOs_gsz.2 this
        unfold okOs at this
        cases e : okL xs <;> simp_all
      have hb' := hb h0
      have HK := hide hok
      have Hb := hide hb'
      clear h1 h0 hok hb hb'
      go_enter Try.func18, Try.ntmps18
      go_wp2_with fail
      refine (ordersCode_any _ B _ _ _ _ 8 h hn).mono ?_
      rintro e w' ⟨rfl, m1, rfl⟩
      go_wp2_with fail
      refine (isModulus_any _ _).mono ?_
      rintro e w' ⟨rfl, m1, rfl⟩
      rw [H1.out]
      go_wp2_with fail
      go_loopw [7, 22] (fun cc i wr => ∃ (k : Nat) (s : Int), k ≤ n ∧ i = .int .i64 k ∧ cc = .int .i64 s ∧ allL q xs 1 xs = allL q xs s (xs.drop k) ∧ ∃ m, w.drewN m = wr) (fun _ i _ => n - (intOf i).toNat)
      case atStart => exact ⟨0, 1, by omega, rfl, rfl, rfl, _, rfl⟩
      case round =>
        obtain ⟨k, s, hk, rfl, rfl, hpre, m, rfl⟩ := hrel
        have hP := hide hpre
        clear hpre
        by_cases hlt : k < n
        · obtain ⟨b, off, rfl, hb, hc⟩ := h.at_ (by omega)
          have c1 := hc k hlt
          have a1 := okL_rng HK.out (show k < xs.length by rw [h.len]; exact hlt)
          have a2 := Hb.out _ (gi_mem (show k < xs.length by rw [h.len]; exact hlt))
          have hst : allL q xs 1 xs = allL q xs (rowL q (gi xs k) s xs) (xs.drop (k + 1)) := by rw [hP.out, drop_gi (by rw [h.len]; exact hlt), allL]
          have hS := hide hst
          clear hst
          go_wp2_with fail
          go_loopw [7, 28] (fun cc j wr => ∃ (t : Nat) (s' : Int), t ≤ n ∧ j = .int .i64 t ∧ cc = .int .i64 s' ∧ rowL q (gi xs k) s xs = rowL q (gi xs k) s' (xs.drop t) ∧ ∃ m, w.drewN m = wr) (fun _ j _ => n - (intOf j).toNat)
          case atStart => exact ⟨0, s, by omega, rfl, rfl, rfl, _, rfl⟩
          case round =>
            obtain ⟨t, s', ht, rfl, rfl, hpre, m', rfl⟩ := hrel
            have hR := hide hpre
            clear hpre
            by_cases hlt' : t < n
            · have c2 := hc t hlt'
              have b1 := okL_rng HK.out (show t < xs.length by rw [h.len]; exact hlt')
              have b2 := Hb.out _ (gi_mem (show t < xs.length by rw [h.len]; exact hlt'))
              have hst : rowL q (gi xs k) s xs = rowL q (gi xs k) (wrap64 (s' * gg (gi xs k) (gi xs t) q)) (xs.drop (t + 1)) := by rw [hR.out, drop_gi (by rw [h.len]; exact hlt'), rowL]
              have hS' := hide hst
              clear hst
              have g1 := gg_le (b := gi xs t) a1
              go_wp2_with fail
              refine (gcd_any _ _ _ (by omega) (by omega) (by omega) (by omega)).mono ?_
              rintro e w' ⟨rfl, m1, rfl⟩
              go_wp2_with fail
              refine (gcd_any _ _ _ (by omega) (by omega) (by omega) (by omega)).mono ?_
              rintro e w' ⟨rfl, m1, rfl⟩
              go_wp2
              go_roundw
              case rel => exact ⟨t + 1, _, by omega, by go_num, rfl, hS'.out, _, rfl⟩
              case measure => simp [intOf]; omega
            · go_wp2
              go_roundw
              case rel =>
                refine ⟨k + 1, s', by omega, by go_num, rfl, ?_, _, rfl⟩
                rw [hS.out, hR.out, List.drop_of_length_le (by rw [h.len]; omega)]; rfl
              case measure => simp [intOf]; omega
        · go_wp2
          go_ret2
          exact Q2.d1 (by rw [hP.out, List.drop_of_length_le (by rw [h.len]; omega)]; rfl) rfl
    · have h1f : inB q 1 1000 = false := by simpa using h1
      rw [if_neg (fun hh => h1 hh.2), if_pos h0, if_neg h1]
      have H1 := hide h1f
      clear h1 h1f
      go_enter Try.func18, Try.ntmps18
      go_wp2_with fail
      refine (ordersCode_any _ B _ _ _ _ 8 h hn).mono ?_
      rintro e w' ⟨rfl, m1, rfl⟩
      go_wp2_with fail
      refine (isModulus_any _ _).mono ?_
      rintro e w' ⟨rfl, m1, rfl⟩
      rw [H1.out]
      go_wp2
      go_ret2
      exact Q2.d1 rfl rfl
  · have k0 : (codeO xs 8 != 0) = true := by simpa using h0
    rw [if_neg (fun hh => h0 hh.1), if_neg h0]
    go_enter Try.func18, Try.ntmps18
    go_wp2_with fail
    refine (ordersCode_any _ B _ _ _ _ 8 h hn).mono ?_
    rintro e w' ⟨rfl, m1, rfl⟩
    go_wp2
    go_ret2
    exact Q2.d1 rfl rfl

theorem codeG_codeO (os : List Int) (q : Int) : codeG os q = if codeO os 8 = 0 then (if inB q 1 1000 = true then 0 else 2) else codeO os 8 := by
  unfold codeG codeO
  cases e : okOs os
  · have : gsz os = 0 := by
      cases Int.decEq (gsz os) 0 with
      | isTrue h => exact h
      | isFalse h => have := okOs_gsz.2 h; rw [e] at this; cases this
    simp [this]
  · have h1 := okOs_gsz.1 e
    have h2 : gsz os = gsL 1 os := by
      unfold gsz; split
      · rename_i h; subst h; simp [okOs] at e
      · rfl
    rw [h2] at h1 ⊢
    rw [if_neg (by simp), if_neg h1]
    by_cases h8 : 8 < gsL 1 os
    · rw [if_pos h8, if_pos h8]; rfl
    · rw [if_neg h8, if_neg h8, if_pos rfl]
      cases inB q 1 1000 <;> rfl
theorem le8_of {os : List Int} (h : okL os = true) : ∀ s : Int, 1 ≤ s → s ≤ 17 → gsL s os ≤ 8 → ∀ x ∈ os, x ≤ 8 := by
  induction os with
  | nil => intro s _ _ _ x hx; simp at hx
  | cons m r ih =>
    intro s hs hs2 hg x hx
    unfold okL at h
    split at h
    · cases h
    · rename_i hm
      unfold gsL at hg
      rw [if_neg hm] at hg
      have h3 : 1 * min m 17 ≤ s * min m 17 := Int.mul_le_mul hs (Int.le_refl _) (by omega) (by omega)
      have h4 := gsL_mono r (min 17 (s * min m 17)) h (by omega) (by omega)
      rcases List.mem_cons.1 hx with rfl | hx
      · omega
      · exact ih h _ (by omega) (by omega) hg x hx
theorem codeG_ok {os : List Int} {q : Int} (h : codeG os q = 0) : okL os = true ∧ 1 ≤ q ∧ q ≤ 1000 := by
  unfold codeG at h
  cases e : okOs os
  · rw [e] at h; simp at h
  · rw [e] at h
    simp only [Bool.true_eq_false, if_false] at h
    split at h
    · omega
    · split at h
      · omega
      · rename_i h2
        have h3 : inB q 1 1000 = true := by simpa using h2
        refine ⟨?_, by simpa [inB] using h3⟩
        unfold okOs at e
        cases e' : okL os <;> simp_all
theorem spec_CountB_any (w : World) (B : Nat) (A : Option Addr) (n c : Nat) (xs : List Int) (q : Int) (h : Sl w B A n c xs) (hn : n ≤ 1048576) (hb : codeG xs q = 0 → ∀ x ∈ xs, x ≤ 1000000) :
    Calls Try.prog 16 #[.slice A n c, .int .i64 q] w (Q2 w (if codeG xs q = 0 then allL q xs 1 xs else 0) (codeG xs q)) := by
  by_cases h0 : codeG xs q = 0
  · have k0 : (codeG xs q != 0) = false := by simpa using h0
    obtain ⟨hok, hq1, hq2⟩ := codeG_ok h0
    have hb' := hb h0
    have H0 := hide h0
    rw [if_pos h0]
    have HK := hide hok
    have Hb := hide hb'
    clear h0 hok hb hb'
    go_enter Try.func16, Try.ntmps16
    go_wp2_with fail
    refine (l18Group_any _ B _ _ _ _ _ h hn).mono ?_
    rintro e w' ⟨rfl, m1, rfl⟩
    go_wp2_with fail
    go_loopw [7, 8] (fun cc i wr => ∃ (k : Nat) (s : Int), k ≤ n ∧ i = .int .i64 k ∧ cc = .int .i64 s ∧ allL q xs 1 xs = allL q xs s (xs.drop k) ∧ ∃ m, w.drewN m = wr) (fun _ i _ => n - (intOf i).toNat)
    case atStart => exact ⟨0, 1, by omega, rfl, rfl, rfl, _, rfl⟩
    case round =>
      obtain ⟨k, s, hk, rfl, rfl, hpre, m, rfl⟩ := hrel
      have hP := hide hpre
      clear hpre
      by_cases hlt : k < n
      · obtain ⟨b, off, rfl, hb, hc⟩ := h.at_ (by omega)
        have c1 := hc k hlt
        have a1 := okL_rng HK.out (show k < xs.length by rw [h.len]; exact hlt)
        have a2 := Hb.out _ (gi_mem (show k < xs.length by rw [h.len]; exact hlt))
        have hst : allL q xs 1 xs = allL q xs (rowL q (gi xs k) s xs) (xs.drop (k + 1)) := by rw [hP.out, drop_gi (by rw [h.len]; exact hlt), allL]
        have hS := hide hst
        clear hst
        go_wp2_with fail
        go_loopw [7, 9] (fun cc j wr => ∃ (t : Nat) (s' : Int), t ≤ n ∧ j = .int .i64 t ∧ cc = .int .i64 s' ∧ rowL q (gi xs k) s xs = rowL q (gi xs k) s' (xs.drop t) ∧ ∃ m, w.drewN m = wr) (fun _ j _ => n - (intOf j).toNat)
        case atStart => exact ⟨0, s, by omega, rfl, rfl, rfl, _, rfl⟩
        case round =>
          obtain ⟨t, s', ht, rfl, rfl, hpre, m', rfl⟩ := hrel
          have hR := hide hpre
          clear hpre
          by_cases hlt' : t < n
          · have c2 := hc t hlt'
            have b1 := okL_rng HK.out (show t < xs.length by rw [h.len]; exact hlt')
            have b2 := Hb.out _ (gi_mem (show t < xs.length by rw [h.len]; exact hlt'))
            have hst : rowL q (gi xs k) s xs = rowL q (gi xs k) (wrap64 (s' * gg (gi xs k) (gi xs t) q)) (xs.drop (t + 1)) := by rw [hR.out, drop_gi (by rw [h.len]; exact hlt'), rowL]
            have hS' := hide hst
            clear hst
            have g1 := gg_le (b := gi xs t) a1
            have i0 : (0 : Int) ≤ (k : Int) := by omega
            have i1 : (k : Int) < (n : Int) := by omega
            have i2 : (0 : Int) ≤ (t : Int) := by omega
            have i3 : (t : Int) < (n : Int) := by omega
            go_wp2_with fail
            refine wp_region_ord [0, 1, 2, 3, 4, 5, 6, 7, 8, 10, 9, 11, 12, 13] 13 (fun w' => w'.cell? ⟨b, off + k, none⟩ = some (.int .i64 (gi xs k)) ∧ w'.cell? ⟨b, off + t, none⟩ = some (.int .i64 (gi xs t))) (by kernel_rfl) (by kernel_rfl) (by kernel_rfl) (fun _ _ _ _ _ h => h) ⟨c1, c2⟩ ?_
            repeat (apply ord_take rfl (by rfl) (by rfl); focus (intro w hSw; (try dsimp only at hSw); go_simp; (try with_reducible rfl)); (try simp only [Act.put, List.setIfInBounds_toArray, List.set_cons_zero, List.set_cons_succ]))
            refine ord_do rfl (by rfl) (by rfl) (fun K hK => ?_)
            go_simp
            refine (l10Common_any _ _ _ (by omega) (by omega) (by omega) (by omega)).mono ?_
            rintro e w' ⟨rfl, m, rfl⟩
            refine hK.out _ _ (fun _ => ⟨c1, c2⟩) ?_
            (try simp only [Act.put, List.setIfInBounds_toArray, List.set_cons_zero, List.set_cons_succ])
            clear hK K
            repeat (apply ord_take rfl (by rfl) (by rfl); focus (intro w hSw; (try dsimp only at hSw); go_simp; (try with_reducible rfl)); (try simp only [Act.put, List.setIfInBounds_toArray, List.set_cons_zero, List.set_cons_succ]))
            refine ord_do rfl (by rfl) (by rfl) (fun K hK => ?_)
            go_simp
            refine (l10Common_any _ _ _ (by omega) (by omega) (by omega) (by omega)).mono ?_
            rintro e w' ⟨rfl, m, rfl⟩
            refine hK.out _ _ (fun _ => ⟨c1, c2⟩) ?_
            (try simp only [Act.put, List.setIfInBounds_toArray, List.set_cons_zero, List.set_cons_succ])
            clear hK K
            repeat (apply ord_take rfl (by rfl) (by rfl); focus (intro w hSw; (try dsimp only at hSw); go_simp; (try with_reducible rfl)); (try simp only [Act.put, List.setIfInBounds_toArray, List.set_cons_zero, List.set_cons_succ]))
            refine ord_do rfl (by rfl) (by rfl) (fun K hK => ?_)
            go_simp
            refine hK.out _ _ (fun h => absurd h (by omega)) ?_
            (try simp only [Act.put, List.setIfInBounds_toArray, List.set_cons_zero, List.set_cons_succ])
            clear hK K
            refine ord_nil ?_
            go_wp2
            go_roundw
            case rel => exact ⟨t + 1, _, by omega, by go_num, rfl, by rw [wrap_eq]; exact hS'.out, _, rfl⟩
            case measure => simp [intOf]; omega
          · go_wp2
            go_roundw
            case rel =>
              refine ⟨k + 1, s', by omega, by go_num, rfl, ?_, _, rfl⟩
              rw [hS.out, hR.out, List.drop_of_length_le (by rw [h.len]; omega)]; rfl
            case measure => simp [intOf]; omega
      · go_wp2
        go_ret2
        exact Q2.d1 (by rw [hP.out, List.drop_of_length_le (by rw [h.len]; omega)]; rfl) H0.out.symm
  · have k0 : (codeG xs q != 0) = true := by simpa using h0
    rw [if_neg h0]
    go_enter Try.func16, Try.ntmps16
    go_wp2_with fail
    refine (l18Group_any _ B _ _ _ _ _ h hn).mono ?_
    rintro e w' ⟨rfl, m1, rfl⟩
    go_wp2
    go_ret2
    exact Q2.d1 rfl rfl

theorem open_ok {n : Int} (h : (Lit.int .i64 n).wf = true) : i64ok n := by simpa [Lit.wf, IntKind.min, IntKind.max, IntKind.signed, IntKind.bits, i64ok] using h

theorem law_countB {w : World} (A : Option Addr) (n c : Nat) (xs : List Int) (h0 : SlIn w A n c xs) (q : Int) (hq : (Lit.int .i64 q).wf = true) : Calls Try.prog 5 #[.slice A n c, .int .i64 q] w (Re w (.bool true)) := by
  obtain ⟨h, hnm⟩ := h0
  by_cases hn : n ≤ 1048576
  · have hle : codeO xs 8 = 0 → ∀ x ∈ xs, x ≤ 1000000 := by
      intro h0 x hx
      have h1 := codeO_ok h0
      have := le8_of h1.1 1 (by omega) (by omega) h1.2 x hx
      omega
    have e := codeG_codeO xs q
    have hc : codeG xs q = 0 ↔ codeO xs 8 = 0 ∧ inB q 1 1000 = true := by
      rw [e]
      by_cases h1 : codeO xs 8 = 0
      · rw [if_pos h1]
        cases inB q 1 1000 <;> simp [h1]
      · rw [if_neg h1]; simp [h1]
    obtain ⟨a, ha⟩ : ∃ a, (if codeG xs q = 0 then allL q xs 1 xs else 0) = a := ⟨_, rfl⟩
    obtain ⟨b, hb⟩ : ∃ b, codeG xs q = b := ⟨_, rfl⟩
    have hs : ∀ W A' c', Sl W W.heap.size A' n c' xs → Calls Try.prog 16 #[.slice A' n c', .int .i64 q] W (Q2 W a b) := by
      intro W A' c' h'; rw [← ha, ← hb]; exact spec_CountB_any W _ A' n c' xs q h' hn (fun h0 => hle (hc.1 h0).1)
    have hi : ∀ W A' c', Sl W W.heap.size A' n c' xs → Calls Try.prog 18 #[.slice A' n c', .int .i64 q] W (Q2 W a b) := by
      intro W A' c' h'
      have := impl_CountB_any W _ A' n c' xs q h' hn hle
      rw [← e, hb] at this
      rw [← ha]
      by_cases h0 : codeG xs q = 0
      · rw [if_pos h0]; rwa [if_pos (hc.1 h0)] at this
      · rw [if_neg h0]; rwa [if_neg (fun hh => h0 (hc.2 hh))] at this
    have Hs := hide hs
    have Hi := hide hi
    clear hs hi ha hb hle hc e
    go_enter Try.func5, Try.ntmps5
    go_wp2_with fail
    refine (toInt64S_any _ w.heap.size _ _ _ _ h (Nat.le_refl _) hn).mono ?_
    rintro e w1 ⟨v1, rfl, ho1, hb1⟩
    obtain ⟨A1, c1, rfl, s1⟩ := ho1.sl h.rng
    rw [h.len] at s1 ⊢
    go_wp2_with fail
    refine (Hs.out _ _ _ s1).mono ?_
    rintro e w' ⟨rfl, m, rfl⟩
    go_wp2_with fail
    refine (toInt64S_any _ w.heap.size _ _ _ _ (h.below (below_drewN hb1 _)) (by simpa using hb1.size) hn).mono ?_
    rintro e w2 ⟨v2, rfl, ho2, hb2⟩
    obtain ⟨A2, c2, rfl, s2⟩ := ho2.sl h.rng
    rw [h.len] at s2 ⊢
    go_wp2_with fail
    refine (Hi.out _ _ _ s2).mono ?_
    rintro e w' ⟨rfl, m2, rfl⟩
    have z1 := hb1.size
    have z2 := hb2.size
    go_wp2_with fail
    have hb12 : Below w.heap.size w (w2.drewN m2) := below_drewN ((below_drewN hb1 _).trans (hb2.mono (by simpa using z1))) _
    refine (toInt64S_any _ w.heap.size _ _ _ _ (h.below hb12) hb12.size hn).mono ?_
    rintro e w3 ⟨v3, rfl, ho3, hb3⟩
    obtain ⟨A3, c3, rfl, s3⟩ := ho3.sl h.rng
    rw [h.len] at s3 ⊢
    go_wp2_with fail
    refine (eqInt64S_any _ _ _ _ _ _ _ _ _ _ _ ((s2.drewN m2).below hb3) s3 hn).mono ?_
    rintro e w' ⟨rfl, m3, rfl⟩
    rw [beq_self_eq_true]
    go_wp2
    go_ret
    exact ⟨rfl, below_drewN (hb12.trans (hb3.mono (by simpa using Nat.le_trans (by simpa using z1) z2))) _⟩
  · go_enter Try.func5, Try.ntmps5
    go_wp2
    go_ret
    exact ⟨rfl, Below.refl _ _⟩
end Go.Proofs.Ytkmnmcfpafopmaa
