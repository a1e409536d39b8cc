
/- The walk of l07Grow: by recursion on the number of places that are left. -/
import Derived.Test.YteobaodabjdcaaaCT6
import Derived.Test.YteobaodabjdcaaaRI5
namespace Go.Proofs.Yteobaodabjdcaaa
open Go Go.RowKit
set_option linter.unusedSimpArgs false
set_option linter.unusedVariables false
set_option maxRecDepth 100000
theorem n012 {N : Nat} (h : N ≤ 2) : N = 0 ∨ N = 1 ∨ N = 2 := by omega
theorem wN1 {N : Nat} (h : N ≤ 2) : wrap64 ((N : Int) * N) = (N : Int) * N := by rcases n012 h with rfl | rfl | rfl <;> exact wrap64_ok _ ⟨by decide, by decide⟩
theorem wN2 {N : Nat} (h : N ≤ 2) : wrap64 ((N : Int) * N * N) = (N : Int) * N * N := by rcases n012 h with rfl | rfl | rfl <;> exact wrap64_ok _ ⟨by decide, by decide⟩
theorem growC_succ (n m r p : Nat) (f : F3) : growC n m (r + 1) p f = sumN (fun v => if fitB n (upd f (p / ((n - 1) * (n - 1)) + 1) (p / (n - 1) % (n - 1) + 1) (p % (n - 1) + 1) v) (p / ((n - 1) * (n - 1)) + 1) (p / (n - 1) % (n - 1) + 1) (p % (n - 1) + 1) = true then growC n m r (p + 1) (upd f (p / ((n - 1) * (n - 1)) + 1) (p / (n - 1) % (n - 1) + 1) (p % (n - 1) + 1) v) else 0) (m + 1) := rfl
set_option maxHeartbeats 8000000 in
theorem grow_any (n N m B : Nat) (fp kp : Nat → Prop) (hnN : n = N + 1) (hN : N ≤ 2) (hm : m ≤ 4) (hfp : ∀ b, fp b → B ≤ b) (hfk : ∀ b, fp b → ¬ kp b) : ∀ (r p : Nat) (w : World) (f : F3) (vT v : Value) (len : Nat), p + r = N * N * N → E3 w vT (cub n f) fp → OwR w B v len (fun b => fp b ∨ kp b) → B ≤ w.heap.size → (∀ b, kp b → b < w.heap.size) →
    (∀ a b c, 0 ≤ f a b c ∧ f a b c ≤ 1000) → (∀ i, i < n → 0 ≤ du (cub n f) i) → (∀ a b c, a < N → b < N → c < N → p ≤ (a * N + b) * N + c → f (a + 1) (b + 1) (c + 1) = 0) → len + (m + 1) ^ r ≤ 1000000 →
    Calls Try.prog 13 #[vT, .int .i64 p, .int .i64 m, v] w (GrP w B vT n f fp kp (len + growC n m r p f)) := by
  intro r
  induction r with
  | zero =>
    intro p w f vT v len hp hE hO hB hkp hf hd hz hl
    obtain ⟨b, off, c, b1, o1, c1, b2, o2, c2, rfl, hnc, hV⟩ := view_cub hE (by omega)
    obtain ⟨A, cv, rfl⟩ := hO.val
    have hFl := hide (l03Fault_any w n c b off b1 o1 c1 b2 o2 c2 (cub n f) hV (cub_cb (by omega) (by omega) hf) (cb_len n f) hnc)
    have hpN : p = N * N * N := by omega
    have hp1 : (p : Int) = (N : Int) * N * N := by rw [hpN]; simp
    have HG := hide (show growC n m 0 p f = okR3 n f from rfl)
    clear hpN
    subst hnN
    have HP := hide hp1
    have hq : ((p : Int) == (N : Int) * N * N) = true := by rw [hp1]; simp
    have w1 := wN1 hN
    have w2 := wN2 hN
    clear hp1 hp hz hd
    go_enter Try.func13, Try.ntmps13
    go_wp2_with fail
    clear hq w1 w2
    refine hFl.out.mono ?_
    intro e w2 h2
    cases hfl : flt (cub (N + 1) f) with
    | some xs =>
      have HR := hide (show okR3 (N + 1) f = 0 by unfold okR3; rw [hfl]; rfl)
      have hne := flt_len hfl
      rw [hfl] at h2
      obtain ⟨g, cap, rfl, ho, hb2⟩ := h2.out_some
      have hl0 : ((xs.length : Int) == 0) = false := by
        have : xs.length ≠ 0 := fun h => hne (List.eq_nil_of_length_eq_zero h)
        simp; omega
      have hP : GrP w B (.slice (some ⟨b, off, none⟩) (N + 1) c) (N + 1) f fp kp (len + growC (N + 1) m 0 p f) (.returned (.slice A len cv)) w2 := ⟨_, rfl, by rw [HG.out, HR.out]; exact hO.bel hb2, hE.below hb2, hb2.mono hB, fun b hb => hb2.block b (hkp b hb)⟩
      have HPo := hide hP
      clear hfl h2 hne ho hP hE hV hO
      go_wp2_with fail
      go_ret
      exact HPo.out
    | none =>
      have HR := hide (show okR3 (N + 1) f = 1 by unfold okR3; rw [hfl]; rfl)
      rw [hfl] at h2
      obtain ⟨rfl, hb2⟩ := h2.out_none
      have hE2 := hE.below hb2
      have hO2 := hO.bel hb2
      obtain ⟨A3, c3, e3, hs3⟩ := E3.sl3 hE2
      rw [cb_len] at e3 hs3
      injection e3 with e4 _ e5
      subst e4; subst e5
      have hOw := hide (l03Own_any w2 w2.heap.size (some ⟨b, off, none⟩) (N + 1) c (cub (N + 1) f) hs3 (Nat.le_refl _) (by omega) (fun r hr => ⟨by rw [(cub_rows r hr).1]; omega, fun q hq => by rw [(cub_rows r hr).2 q hq]; omega⟩))
      have hl2 : len + 1 ≤ 1000000 := hl
      have hbs := hb2.size
      clear hfl h2 hE hV hO hs3
      go_wp2_with fail
      refine hOw.out.mono ?_
      rintro e w4 ⟨v4, rfl, hG4, hb4⟩
      obtain ⟨A4, c4, rfl⟩ := hG4.val
      have hE4 := hE2.below hb4
      have hO4 := hO2.bel hb4
      have hbs4 := hb4.size
      clear hE2 hO2
      obtain ⟨us, hus, hOv, hap⟩ := hO4
      obtain ⟨nn, hnn⟩ : ∃ nn, (cub (N + 1) f).length = nn := ⟨_, rfl⟩
      rw [hnn] at hG4 ⊢
      have HG4 := hide hG4
      clear hG4 hnn
      have hu4 : us.length ≤ 1048576 := by omega
      have HUS := hide hus
      rw [show len = us.length from hus.symm] at hOv hap ⊢
      clear hus hl2 hl
      go_wp2_with (at_builtin; go_loud (refine list_pushA 26 31 _ 24 Try.underlying26 ring_info (by omega) rfl _ rfl _ _ rfl B _ us rfl (hOv.alloc _) (.slice A4 nn c4) rfl w4.heap.size _ rfl (Blk.new _ _ _) hu4 (by simp; omega) (by simp) ?_); intro g cap w6 hP)
      have hP' : PushV 31 (w4.alloc (Obj.cells #[Value.slice A4 nn c4] 31)) B (.slice A us.length cv) us (.slice A4 nn c4) w4.heap.size g cap w6 := hP
      clear hP
      have hE5 := hE4.below ((Below.refl _ _).alloc (Nat.le_refl _) (.cells #[.slice A4 nn c4] 31))
      have hW6 := hP'.wr
      have hE6 : E3 w6 (.slice (some ⟨b, off, none⟩) (N + 1) c) (cub (N + 1) f) fp := kp3 _ _ _ _ _ hE5 (fun b hb => hW6.block b (hE5.bd b hb) (fun h => hap b h (.inl hb))) hW6.size
      have hB6 := hP'.below (hOv.alloc _) (by simp; omega)
      have hPo := hide (show GrP w B (.slice (some ⟨b, off, none⟩) (N + 1) c) (N + 1) f fp kp (len + growC (N + 1) m 0 p f) (.returned (.slice (some ⟨g, 0, none⟩) (us.length + 1) cap)) w6 from
        ⟨_, rfl, ⟨us ++ [.slice A4 nn c4], by rw [HG.out, HR.out, ← HUS.out]; simp, by have h := hP'.own; rw [show us.length + 1 = (us ++ [Value.slice A4 nn c4]).length by simp] at h ⊢; exact h, fun b' hb' hf' => by
          have e : g = b' := by simpa [Value.ownBlock] using hb'
          subst e
          rcases hP'.2.2.1 with h | h
          · exact hap _ h hf'
          · rcases hf' with hf' | hf'
            · have := hE4.bd _ hf'; omega
            · have := hkp _ hf'; omega⟩, hE6, (((hb2.mono hB).trans (hb4.mono (by omega))).trans ((Below.refl _ _).alloc (by omega) _)).trans hB6, fun b' hb' => by
          have k1 := hkp b' hb'
          rw [hW6.block b' (by simp; omega) (fun h => hap b' h (.inr hb')), Below.heap_alloc _ _ _ (by omega), hb4.block b' (by omega), hb2.block b' k1]⟩)
      go_ret
      exact hPo.out
  | succ r ih =>
    intro p w f vT v len hp hE hO hB hkp hf hd hz hl
    obtain ⟨b, off, c, b1, o1, c1, b2, o2, c2, rfl, hnc, hV⟩ := view_cub hE (by omega)
    obtain ⟨A, cv, rfl⟩ := hO.val
    have hN1 : 1 ≤ N := by rcases Nat.eq_zero_or_pos N with h | h; (subst h; simp at hp); exact h
    obtain ⟨Q, hQ⟩ : ∃ Q, N * N = Q := ⟨_, rfl⟩
    obtain ⟨x0, hx0⟩ : ∃ x0, p / Q = x0 := ⟨_, rfl⟩
    obtain ⟨y0, hy0⟩ : ∃ x0, p / N = x0 := ⟨_, rfl⟩
    obtain ⟨y1, hy1⟩ : ∃ x0, y0 % N = x0 := ⟨_, rfl⟩
    obtain ⟨z1, hz1⟩ : ∃ x0, p % N = x0 := ⟨_, rfl⟩
    obtain ⟨x, hx⟩ : ∃ x, x0 + 1 = x := ⟨_, rfl⟩
    obtain ⟨y, hy⟩ : ∃ x, y1 + 1 = x := ⟨_, rfl⟩
    obtain ⟨z, hzz⟩ : ∃ x, z1 + 1 = x := ⟨_, rfl⟩
    have hp8 : p < 8 := by rcases n012 hN with h | h | h <;> (subst h; omega)
    have hQ1 : 1 ≤ Q := by rcases n012 hN with h | h | h <;> (subst h; omega)
    have hx2 : x0 < N := by rcases n012 hN with h | h | h <;> (subst h; subst hQ; omega)
    have hy2 : y1 < N := by rw [← hy1]; exact Nat.mod_lt _ (by omega)
    have hz2 : z1 < N := by rw [← hz1]; exact Nat.mod_lt _ (by omega)
    have hpp : (x0 * N + y1) * N + z1 = p := by rcases n012 hN with h | h | h <;> (subst h; subst hQ; omega)
    have hq : ((p : Int) == wrap64 ((Q : Int) * N)) = false := by
      rw [← hQ, Int.natCast_mul, wN2 hN, beq_eq_false_iff_ne, show (N : Int) * N * N = ((N * N * N : Nat) : Int) by simp]; omega
    have hQw : IntKind.i64.wrap ((N : Int) * N) = (Q : Int) := by rw [wr64, ← hQ]; exact Int.natCast_mul N N ▸ rfl; rw [← Int.natCast_mul, hQ]; exact ⟨by omega, by rcases n012 hN with h | h | h <;> (subst h; omega)⟩
    have hxw : IntKind.i64.wrap ((p : Int) / (Q : Int)) = (x0 : Int) := by rw [← Int.natCast_ediv, hx0]; exact wr64 _ ⟨by omega, by omega⟩
    have hyw : IntKind.i64.wrap ((p : Int) / (N : Int)) = (y0 : Int) := by rw [← Int.natCast_ediv, hy0]; exact wr64 _ ⟨by omega, by have := Nat.div_le_self p N; omega⟩
    have hyv : Int.tmod (y0 : Int) (N : Int) = (y1 : Int) := by rw [← Int.ofNat_tmod, hy1]
    have hzw : Int.tmod (p : Int) (N : Int) = (z1 : Int) := by rw [← Int.ofNat_tmod, hz1]
    have hxs : IntKind.i64.wrap ((x0 : Int) + 1) = (x : Int) := by rw [wr64 _ ⟨by omega, by omega⟩]; omega
    have hys : IntKind.i64.wrap ((y1 : Int) + 1) = (y : Int) := by rw [wr64 _ ⟨by omega, by omega⟩]; omega
    have hzs : IntKind.i64.wrap ((z1 : Int) + 1) = (z : Int) := by rw [wr64 _ ⟨by omega, by omega⟩]; omega
    have HX := hide hx0
    have HY0 := hide hy0
    have HY1 := hide hy1
    have HZ1 := hide hz1
    have HQ := hide hQ
    have n0 : ¬ N = 0 := by omega
    have nQ : ¬ Q = 0 := by omega
    clear hx0 hy0 hy1 hz1 hQ
    subst hnN
    go_enter Try.func13, Try.ntmps13
    go_wp2_with fail
    refine wp_region_be [0, 1, 2, 3, 4, 5, 6, 7, 8, 9, 10, 11, 12, 13, 14, 15, 16, 17, 18] 18 w.heap.size w (by kernel_rfl) (by kernel_rfl) (by kernel_rfl) (fun _ _ _ _ _ h => h) (Below.refl _ _) (fun wd hBe => ?_)
    repeat (first | (apply ord_tk rfl (by rfl) (by rfl) (by rfl); (focus (intro wx hSw; skip; go_simp; (try with_reducible rfl))); (try simp only [Act.put, List.setIfInBounds_toArray, List.set_cons_zero, List.set_cons_succ])) | (apply ord_skip rfl (by rfl) (by rfl) (fun _ => hBe); (try simp only [Act.put, List.setIfInBounds_toArray, List.set_cons_zero, List.set_cons_succ])))
    refine ord_do rfl (by rfl) (by rfl) (fun K hK => ?_)
    go_simp
    refine hK.out _ _ (fun h => absurd h (by omega)) ?_
    (try simp only [Act.put, List.setIfInBounds_toArray, List.set_cons_zero, List.set_cons_succ])
    clear hK K
    refine ord_nil ?_
    obtain ⟨G, hG⟩ : ∃ G, (fun v : Nat => if fitB (N + 1) (upd f x y z v) x y z = true then growC (N + 1) m r (p + 1) (upd f x y z v) else 0) = G := ⟨_, rfl⟩
    have HG := hide (show growC (N + 1) m (r + 1) p f = sumN G (m + 1) by
      rw [← hG, growC_succ, show N + 1 - 1 = N by omega, HQ.out, HX.out, HY0.out, HY1.out, HZ1.out, hx, hy, hzz])
    have HGv := hide (fun v : Nat => show G v = if fitB (N + 1) (upd f x y z v) x y z = true then growC (N + 1) m r (p + 1) (upd f x y z v) else 0 by rw [← hG])
    have HGl := hide (fun (v : Nat) => show G v ≤ (m + 1) ^ r by rw [HGv.out v]; split; exact growC_le _ _ _ _ _; exact Nat.zero_le _)
    have hf0 : f x y z = 0 := by rw [← hx, ← hy, ← hzz]; exact hz _ _ _ hx2 hy2 hz2 (by omega)
    have hEd := hE.below hBe
    have hOd := hO.bel hBe
    have hsd := hBe.size
    have hBd := hBe.mono hB
    have hKd : ∀ b, kp b → wd.heap[b]? = w.heap[b]? := fun b hb => hBe.block b (hkp b hb)
    have hx3 : x < N + 1 := by omega
    have hy3 : y < N + 1 := by omega
    have hz3 : z < N + 1 := by omega
    have hz4 : 1 ≤ z := by omega
    have hp1 : p + 1 + r = N * N * N := by omega
    have HZ := hide (show ∀ a b c : Nat, a < N → b < N → c < N → p + 1 ≤ (a * N + b) * N + c → (a + 1 = x ∧ b + 1 = y ∧ c + 1 = z) → False from fun a b c ha hb hc h e => by
      obtain ⟨e1, e2, e3⟩ := e
      have f1 : a = x0 := by omega
      have f2 : b = y1 := by omega
      have f3 : c = z1 := by omega
      subst f1; subst f2; subst f3; omega)
    have HL := hide hl
    have HP := hide hp
    have HP1 := hide hp1
    have HHz := hide hz
    have HHf := hide hf
    have HHd := hide hd
    clear hG hV hE hO hl hp hp1 hz hf hd hq hx hy hzz hxs hys hzs hxw hyw hyv hzw hQw HX HY0 HY1 HZ1 HQ hpp hx2 hy2 hz2 nQ hQ1
    go_wp2_with fail
    go_loopw [3, 13] (fun o vv wr => ∃ (k : Nat) (ov : Value) (u : Int), k ≤ m + 1 ∧ vv = .int .i64 k ∧ ov = o ∧ OwR wr B ov (len + sumN G k) (fun b => fp b ∨ kp b) ∧ E3 wr (.slice (some ⟨b, off, none⟩) (N + 1) c) (cub (N + 1) (upd f x y z u)) fp ∧ Below B w wr ∧ w.heap.size ≤ wr.heap.size ∧ ∀ b, kp b → wr.heap[b]? = w.heap[b]?) (fun _ vv _ => m + 1 - (intOf vv).toNat)
    case atStart => exact ⟨0, _, 0, by omega, rfl, rfl, hOd, by rw [upd_same f x y z 0 hf0]; exact hEd, hBd, hsd, hKd⟩
    case round =>
      clear hOd hEd hBd hsd hBe hKd
      obtain ⟨k, ov, u, hk, rfl, rfl, hO, hE, hBw, hsw, hKw⟩ := hrel
      by_cases hlt : k < m + 1
      · have hkm : (k : Int) ≤ m := by omega
        obtain ⟨g, g1, g2, cc, c1', c2', e, k0, k1, ⟨u0, k2⟩, k3, k4, hE2⟩ := hE.put hx3 hy3 hz3 (show i64ok (k : Int) from ⟨by omega, by omega⟩)
        injection e with e1 _ e2
        injection e1 with e1
        injection e1 with e1 e3 _
        subst e1; subst e2; subst e3
        rw [upd_upd] at hE2
        have hWs : Wr wr (wr.setCell ⟨g2, z, none⟩ (.int .i64 k)) fp := ⟨rfl, rfl, rfl, by simp [World.setCell], fun b' _ hn => Below.heap_setCell _ _ _ _ (fun e => hn (by have e' : b' = g2 := e; rw [e']; exact k4))⟩
        have hOs := hO.wrl hWs
        have hKs : ∀ b, kp b → (wr.setCell ⟨g2, z, none⟩ (.int .i64 _)).heap[b]? = w.heap[b]? := fun b hb => (hWs.block b (by have := hkp b hb; omega) (fun h => hfk b h hb)).trans (hKw b hb)
        obtain ⟨W, hW⟩ : ∃ W, wr.setCell ⟨g2, z, none⟩ (.int .i64 k) = W := ⟨_, rfl⟩
        rw [hW] at hE2 hWs hOs hKs
        have hBs := hBw.trans (hWs.below hfp (by omega))
        have hss := hWs.size
        obtain ⟨b', off', c', b1', o1', c1'', b2', o2', c2'', e, hnc', hV⟩ := view_cub hE2 (by omega)
        injection e with e1 _ e2
        injection e1 with e1
        injection e1 with e1 e3 _
        subst e1; subst e2; subst e3
        have hFi := hide (l07Fits_any W (N + 1) c b 0 b1' o1' c1'' b2' o2' c2'' (upd f x y z k) x y z hV (by omega) hnc hx3 hy3 hz3 (by rw [du_upd _ _ _ _ _ _ hz4]; exact HHd.out x hx3))
        have hGk := HGv.out k
        obtain ⟨fb, hfb⟩ : ∃ fb, fitB (N + 1) (upd f x y z k) x y z = fb := ⟨_, rfl⟩
        rw [hfb] at hFi hGk
        have HGk := hide hGk
        have hsum : sumN G (k + 1) = sumN G k + G k := rfl
        have HSum := hide hsum
        have hle1 : len + sumN G k + (m + 1) ^ r ≤ 1000000 := by
          have h1 : sumN G k ≤ k * (m + 1) ^ r := sumN_le fun v _ => HGl.out v
          have h2 : k * (m + 1) ^ r + (m + 1) ^ r ≤ (m + 1) ^ (r + 1) := by
            rw [Nat.pow_succ, ← Nat.succ_mul, Nat.mul_comm]
            exact Nat.mul_le_mul_left _ (by omega)
          have := HL.out; omega
        have HLe := hide hle1
        clear hfb hGk hsum hle1 hV hE hO hBw
        go_wp2_with fail
        clear k0 k1 k2 k3 hW
        refine hFi.out.mono ?_
        rintro e w2 ⟨rfl, hb2⟩
        have hE3 := hE2.below hb2
        have hO3 := hOs.bel hb2
        have hs3 := hb2.size
        have hB3 := hBs.trans (hb2.mono (by omega))
        have hK3 : ∀ b, kp b → w2.heap[b]? = w.heap[b]? := fun b hb => (hb2.block b (by have := hkp b hb; omega)).trans (hKs b hb)
        clear hE2 hOs
        cases fb with
        | false =>
          have HGz := hide (show G k = 0 by rw [HGk.out]; rfl)
          go_wp2_with fail
          go_roundw
          case rel => exact ⟨k + 1, _, k, by omega, by go_num, rfl, by rw [HSum.out, HGz.out, Nat.add_zero]; exact hO3, hE3, hB3, by omega, hK3⟩
          case measure => simp [intOf] <;> omega
        | true =>
          have HGz := hide (show G k = growC (N + 1) m r (p + 1) (upd f x y z k) by rw [HGk.out]; rfl)
          have hIH := ih (p + 1) w2 (upd f x y z k) _ ov (len + sumN G k) HP1.out hE3 hO3 (by omega) (fun b hb => by have := hkp b hb; omega)
            (fun a b c => by unfold upd; split; exact ⟨by omega, by omega⟩; exact HHf.out a b c)
            (fun i hi => by rw [du_upd _ _ _ _ _ _ hz4]; exact HHd.out i hi)
            (fun a b c ha hb hc h => by
              unfold upd
              rw [if_neg (fun e => HZ.out a b c ha hb hc h e)]
              exact HHz.out a b c ha hb hc (by omega)) HLe.out
          rw [show ((p + 1 : Nat) : Int) = (p : Int) + 1 by omega] at hIH
          have HIH := hide hIH
          clear hIH hE3 hO3
          go_wp2_with fail
          refine HIH.out.mono ?_
          rintro e w4 ⟨v4, rfl, hO4, hE4, hB4, hK4⟩
          have hB5 := hB3.trans hB4
          go_wp2_with fail
          go_roundw
          case rel => exact ⟨k + 1, _, k, by omega, by go_num, rfl, by rw [HSum.out, HGz.out, ← Nat.add_assoc]; exact hO4, hE4, hB5, by have := hB4.size; omega, fun b hb => (hK4 b hb).trans (hK3 b hb)⟩
          case measure => simp [intOf] <;> omega
      · obtain rfl : k = m + 1 := by omega
        obtain ⟨g, g1, g2, cc, c1', c2', e, k0, k1, ⟨u0, k2⟩, k3, k4, hE2⟩ := hE.put hx3 hy3 hz3 (show i64ok 0 from ⟨by omega, by omega⟩)
        injection e with e1 _ e2
        injection e1 with e1
        injection e1 with e1 e3 _
        subst e1; subst e2; subst e3
        rw [upd_upd, upd_same f x y z 0 hf0] at hE2
        have hWs : Wr wr (wr.setCell ⟨g2, z, none⟩ (.int .i64 0)) fp := ⟨rfl, rfl, rfl, by simp [World.setCell], fun b' _ hn => Below.heap_setCell _ _ _ _ (fun e => hn (by have e' : b' = g2 := e; rw [e']; exact k4))⟩
        have hOs := hO.wrl hWs
        have hKs : ∀ b, kp b → (wr.setCell ⟨g2, z, none⟩ (.int .i64 _)).heap[b]? = w.heap[b]? := fun b hb => (hWs.block b (by have := hkp b hb; omega) (fun h => hfk b h hb)).trans (hKw b hb)
        have hBs := hBw.trans (hWs.below hfp (by omega))
        have hPo := hide (show GrP w B (.slice (some ⟨b, 0, none⟩) (N + 1) c) (N + 1) f fp kp (len + growC (N + 1) m (r + 1) p f) (.returned ov) (wr.setCell ⟨g2, z, none⟩ (.int .i64 0)) from ⟨ov, rfl, by rw [HG.out]; exact hOs, hE2, hBs, hKs⟩)
        clear hE hO hBw hE2 hWs hOs hBs
        go_wp2_with fail
        go_ret
        exact hPo.out
end Go.Proofs.Yteobaodabjdcaaa
