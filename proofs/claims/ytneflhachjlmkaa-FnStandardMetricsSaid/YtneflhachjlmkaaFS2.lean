
/- The walk of the law FnStandardMetrics. -/
import Derived.Test.YtneflhachjlmkaaFS1
import Derived.Test.YtneflhachjlmkaaOth
import Derived.Test.YtneflhachjlmkaaD4
import Derived.Test.YtneflhachjlmkaaD5
import Derived.Test.YtneflhachjlmkaaI5
import Derived.WalkLawsBesides
import Derived.Deep.DeepCutAuto
namespace Go.Proofs.Ytneflhachjlmkaa
open Go Go.RowKit Grp
set_option linter.unusedSimpArgs false
set_option linter.unusedVariables false
theorem sl_on1 {W : World} {D : Nat} {v : Int} (h : Blk W D 2 #[.int .i64 v]) (hv : i64ok v) : Sl W W.heap.size (some ⟨D, 0, none⟩) 1 1 [v] :=
  ⟨rfl, Nat.le_refl _, by simpa using hv, fun _ => ⟨D, 0, rfl, h.lt, fun k hk => by
    obtain rfl : k = 0 := by omega
    exact h.cell 0⟩, fun h => by cases h⟩
theorem sl_on2 {W : World} {D : Nat} {v u : Int} (h : Blk W D 2 #[.int .i64 v, .int .i64 u]) (hv : i64ok v) (hu : i64ok u) : Sl W W.heap.size (some ⟨D, 0, none⟩) 2 2 [v, u] :=
  ⟨rfl, Nat.le_refl _, fun x hx => by
    rcases List.mem_cons.1 hx with rfl | hx
    · exact hv
    · rw [List.mem_singleton.1 hx]; exact hu, fun _ => ⟨D, 0, rfl, h.lt, fun k hk => by
    rcases (show k = 0 ∨ k = 1 by omega) with rfl | rfl
    · exact h.cell 0
    · exact h.cell 1⟩, fun h => by cases h⟩
/-- A metric of its own lies at Y. -/
def OwnM (w0 : World) (os : List Int) (q : Int) (vs : List Int) (Y : Nat) (wx : World) : Prop := ∃ D1 e1 D2 e2, Blk wx Y 28 #[.slice D1 os.length e1, .int .i64 q, .slice D2 vs.length e2] ∧ Sl wx wx.heap.size D1 os.length e1 os ∧ Sl wx wx.heap.size D2 vs.length e2 vs ∧ Below w0.heap.size w0 wx
/-- MetricFrom was called and told a metric; at Y lies what lay there. -/
theorem call_own {f : FuncId} {args : Array Value} {W : World} {os vs : List Int} {q : Int} {Y : Nat} {K : Ending → World → Prop} (hC : Calls Try.prog f args W (MkM W os q vs 0)) (R1 : ∀ x ∈ os, i64ok x) (R2 : ∀ x ∈ vs, i64ok x)
    (bY : Blk W Y 28 #[.slice none 0 0, .int .i64 0, .slice none 0 0])
    (hK : ∀ w8 G1 e1 G2 e2, Ow w8 W.heap.size (.slice G1 os.length e1) os → Ow w8 W.heap.size (.slice G2 vs.length e2) vs → Below W.heap.size W w8 → Blk w8 Y 28 #[.slice none 0 0, .int .i64 0, .slice none 0 0] → K (.returned (.tuple #[.agg #[.slice G1 os.length e1, .int .i64 q, .slice G2 vs.length e2], .int .i64 0])) w8) : Calls Try.prog f args W K := by
  refine hC.mono ?_
  rintro e w8 ⟨v1, v2, rfl, ho1, ho2, -, hb⟩
  obtain ⟨G1, e1, rfl, s1⟩ := ho1.sl R1
  obtain ⟨G2, e2, rfl, s2⟩ := ho2.sl R2
  exact hK _ _ _ _ _ ho1 ho2 hb (bY.all hb)
theorem call_new {f : FuncId} {args : Array Value} {W : World} {os vs : List Int} {q : Int} {K : Ending → World → Prop} (hC : Calls Try.prog f args W (MkM W os q vs 0)) (R1 : ∀ x ∈ os, i64ok x) (R2 : ∀ x ∈ vs, i64ok x)
    (hK : ∀ w8 G1 e1 G2 e2, Ow w8 W.heap.size (.slice G1 os.length e1) os → Ow w8 W.heap.size (.slice G2 vs.length e2) vs → Below W.heap.size W w8 → K (.returned (.tuple #[.agg #[.slice G1 os.length e1, .int .i64 q, .slice G2 vs.length e2], .int .i64 0])) w8) : Calls Try.prog f args W K := by
  refine hC.mono ?_
  rintro e w8 ⟨v1, v2, rfl, ho1, ho2, -, hb⟩
  obtain ⟨G1, e1, rfl, s1⟩ := ho1.sl R1
  obtain ⟨G2, e2, rfl, s2⟩ := ho2.sl R2
  exact hK _ _ _ _ _ ho1 ho2 hb
theorem own_new {w0 w8 : World} {B e1 e2 : Nat} {G1 G2 : Option Addr} {os vs : List Int} {q : Int} (h1 : Ow w8 B (.slice G1 os.length e1) os) (h2 : Ow w8 B (.slice G2 vs.length e2) vs) (R1 : ∀ x ∈ os, i64ok x) (R2 : ∀ x ∈ vs, i64ok x) (hb : Below w0.heap.size w0 w8) :
    OwnM w0 os q vs w8.heap.size (w8.alloc (.cells #[.slice G1 os.length e1, .int .i64 q, .slice G2 vs.length e2] 28)) :=
  ⟨_, _, _, _, Blk.new _ _ _, (h1.alloc _).here rfl R1, (h2.alloc _).here rfl R2, hb.alloc hb.size _⟩
theorem own_put {w0 w8 : World} {B e1 e2 Y : Nat} {G1 G2 : Option Addr} {os vs : List Int} {q : Int} (h1 : Ow w8 B (.slice G1 os.length e1) os) (h2 : Ow w8 B (.slice G2 vs.length e2) vs) (R1 : ∀ x ∈ os, i64ok x) (R2 : ∀ x ∈ vs, i64ok x) (hb : Below w0.heap.size w0 w8)
    (bY : Blk w8 Y 28 #[.slice none 0 0, .int .i64 0, .slice none 0 0]) (hY : w0.heap.size ≤ Y) :
    OwnM w0 os q vs Y (put3 w8 Y (.slice G1 os.length e1) (.int .i64 q) (.slice G2 vs.length e2)) :=
  ⟨_, _, _, _, put3_blk bY, (put3_own bY (by decide) h1).here rfl R1, (put3_own bY (by decide) h2).here rfl R2, put3_below hb hY⟩
theorem blk_of {B : Nat} {w0 w : World} (_ : Below B w0 w) (t : TypeId) (cs : Array Value) : Blk (w.alloc (.cells cs t)) w.heap.size t cs := Blk.new _ _ _
set_option maxRecDepth 100000 in
set_option maxHeartbeats 4000000 in
theorem law_StandardMetrics {w : World} (A : Option Addr) (n c : Nat) (bs : List Int) (h : BlIn w A n c bs) : Calls Try.prog 12 #[.slice A n c] w (Re w (.bool true)) := by
  by_cases hn0 : 4096 < n
  · have hd : decide (4096 < (n : Int)) = true := decide_eq_true (by omega)
    have Hd := hide hd
    clear hd
    go_enter Try.func12, Try.ntmps12
    go_wp2_with fail
    refine (big_any _ A n c).mono ?_
    rintro e w1 ⟨rfl, m, rfl⟩
    rw [Hd.out]
    go_wp2
    go_ret
    exact ⟨rfl, (by repeat (first | assumption | exact Below.refl _ _ | apply below_drewN | apply Below.drew | apply Below.alloc | apply Below.setCell | omega | (focus (simp; done)) | (focus (simp; omega))))⟩
  · have hn : n ≤ 4096 := by omega
    have hd : decide (4096 < (n : Int)) = false := decide_eq_false (by omega)
    have Hd := hide hd
    clear hd
    have hS := h.sl
    go_enter Try.func12, Try.ntmps12
    go_wp2_with fail
    refine (big_any _ A n c).mono ?_
    rintro e w1 ⟨rfl, m, rfl⟩
    rw [Hd.out]
    have kk : Below w.heap.size w (w.drewN m) := below_drewN (Below.refl _ _) _
    obtain ⟨w1, hw1⟩ : ∃ w1, w.drewN m = w1 := ⟨_, rfl⟩
    rw [hw1] at kk ⊢
    clear hw1
    have hsz := kk.size
    go_wp2_with fail
    refine (drawCyclic_any w1 A n c bs (hS.keep kk hsz) hn).mono ?_
    rintro e w2 ⟨x, a, rfl, hx, ha, hb2⟩
    replace kk := kk.trans (hb2.mono hsz)
    have hsz2 := hb2.size
    clear hb2
    obtain ⟨os, q, vs, code, hs, hi, HL, hf⟩ := cyc_both x a hx ha
    obtain ⟨l1, l2, r1, r2⟩ := HL
    have R1 := hide r1
    have R2 := hide r2
    have HF := hide hf
    clear r1 r2 hf
    go_wp2_with fail
    refine (Hid.out hi _).mono ?_
    rintro e w3a ⟨v1, v2, rfl, ho1, ho2, -, hb3⟩
    obtain ⟨A1a, c1a, rfl, s1a⟩ := ho1.sl (Hid.out R1)
    obtain ⟨A2a, c2a, rfl, s2a⟩ := ho2.sl (Hid.out R2)
    replace kk := kk.trans (hb3.mono (by omega))
    have hsz3a := hb3.size
    clear hb3 ho1 ho2
    go_wp2_with fail
    obtain ⟨w4a, hwx⟩ : ∃ w', World.alloc w3a (.cells #[.slice A1a (List.length os) c1a, .int .i64 q, .slice A2a (List.length vs) c2a] 28) = w' := ⟨_, rfl⟩
    have k3 : Below (World.heap w3a).size w3a w4a := hwx ▸ (Below.refl _ _).alloc (Nat.le_refl _) _
    have bMa : Blk w4a (World.heap w3a).size 28 #[.slice A1a (List.length os) c1a, .int .i64 q, .slice A2a (List.length vs) c2a] := hwx ▸ Blk.new _ _ _
    rw [hwx]
    clear hwx
    replace s1a := (s1a.below k3).more k3.size
    replace s2a := (s2a.below k3).more k3.size
    replace kk := kk.trans (k3.mono (by omega))
    have hsz4a := k3.size
    refine (Hid.out hs _).mono ?_
    rintro e w5a ⟨v1, v2, rfl, ho1, ho2, -, hb4⟩
    obtain ⟨B1a, d1a, rfl, t1a⟩ := ho1.sl (Hid.out R1)
    obtain ⟨B2a, d2a, rfl, t2a⟩ := ho2.sl (Hid.out R2)
    replace bMa := bMa.all hb4
    replace s1a := (s1a.below hb4).more hb4.size
    replace s2a := (s2a.below hb4).more hb4.size
    replace kk := kk.trans (hb4.mono (by omega))
    have hsz5a := hb4.size
    clear hb4 ho1 ho2 k3
    have x0 := bMa.cell 0
    have x1 := bMa.cell 1
    have x2 := bMa.cell 2
    have lM := bMa.lt
    have hcc : (code != code) = false := by simp
    go_wp2_with fail
    clear x0 x1 x2 lM
    obtain ⟨w6a, hwx⟩ : ∃ w', World.alloc w5a (.cells #[.slice B1a (List.length os) d1a, .int .i64 q, .slice B2a (List.length vs) d2a] 28) = w' := ⟨_, rfl⟩
    have k4 : Below (World.heap w5a).size w5a w6a := hwx ▸ (Below.refl _ _).alloc (Nat.le_refl _) _
    have bWa : Blk w6a (World.heap w5a).size 28 #[.slice B1a (List.length os) d1a, .int .i64 q, .slice B2a (List.length vs) d2a] := hwx ▸ Blk.new _ _ _
    rw [hwx]
    clear hwx
    replace s1a := (s1a.below k4).more k4.size
    replace s2a := (s2a.below k4).more k4.size
    replace t1a := (t1a.below k4).more k4.size
    replace t2a := (t2a.below k4).more k4.size
    replace kk := kk.trans (k4.mono (by omega))
    replace bMa := bMa.all k4
    have hsz6a := k4.size
    clear k4 hcc
    refine (likeM_any _ _ _ _ _ _ _ _ _ _ _ _ _ _ _ _ _ _ _ _ s1a s2a t1a t2a (Nat.le_refl _) (by omega) (by omega)).mono ?_
    rintro e w7a ⟨rfl, hb5⟩
    simp only [beq_self_eq_true, Bool.and_self]
    replace s1a := (s1a.below hb5).more hb5.size
    replace s2a := (s2a.below hb5).more hb5.size
    replace kk := kk.trans (hb5.mono (by omega))
    replace bMa := bMa.all hb5
    have hsz7a := hb5.size
    clear hb5 t1a t2a bWa
    go_upto_if 59 with fail
    go_cut [] (fun wx => Below w.heap.size w wx)
    case first =>
      by_cases h0 : code = 0
      · obtain ⟨hos, hq1, hq2, htm, hmf, hvf, hism⟩ := HF.out h0
        subst h0
        obtain ⟨r, hr⟩ : ∃ r, a % q = r := ⟨_, rfl⟩
        have hr1 : i64ok r := by
          have a1 := Int.emod_nonneg a (show q ≠ 0 by omega)
          have a2 := Int.emod_lt_of_pos a (show 0 < q by omega)
          rw [hr] at a1 a2
          exact ⟨by omega, by omega⟩
        rw [hr] at htm hmf hvf
        clear hr
        have hMf : ∀ (W : World) (D1 D2 : Nat), Sl W W.heap.size (some ⟨D1, 0, none⟩) 1 1 [x] → Sl W W.heap.size (some ⟨D2, 0, none⟩) 1 1 [r] → Calls Try.prog 50 #[.slice (some ⟨D1, 0, none⟩) 1 1, .int .i64 q, .slice (some ⟨D2, 0, none⟩) 1 1, .slice none 0 0] W (MkM W os q vs 0) := by
          intro W D1 D2 g1 g2
          have := impl_Mf_any W (some ⟨D1, 0, none⟩) 1 1 [x] q (some ⟨D2, 0, none⟩) 1 1 [r] none 0 0 [] g1 g2 ⟨rfl, by omega, by simp, fun h => absurd h (by omega), fun _ => rfl⟩ (by omega) (by omega) (by omega)
          rw [hmf, hvf, gF_0, gF_0, gFI_0, ← hos] at this
          exact this
        have HMf := hide hMf
        have HM := hide (And.intro hmf (And.intro hvf hism))
        clear hmf hvf hism hMf hos
        have x0 := bMa.cell 0
        have x1 := bMa.cell 1
        have x2 := bMa.cell 2
        have lM := bMa.lt
        have q0 : ¬ q = 0 := by omega
        go_upto_region 9 with fail
        go_cut [9, 10] (fun s9 s10 wx => ∃ Y, s9 = .pointer (some ⟨Y, 0, none⟩) ∧ s10 = .int .i64 0 ∧ OwnM w7a os q vs Y wx)
        case first =>
          refine wp_region_b3 (.one 0 (.one 2 (.one 3 (.one 4 (.one 5 (.one 6 (.one 7 (.three 1 (.two 8 (.two 9 (.one 10 (.one 11 (.one 12 (.one 13 (.one 14 (.one 15 .nil)))))) 13 (.one 9 (.one 10 (.one 11 (.one 12 (.one 14 (.one 15 .nil))))))) 13 (.one 8 (.one 9 (.one 10 (.one 11 (.one 12 (.one 14 (.one 15 .nil)))))))) 8 (.two 1 (.two 9 (.one 10 (.one 11 (.one 12 (.one 13 (.one 14 (.one 15 .nil)))))) 13 (.one 9 (.one 10 (.one 11 (.one 12 (.one 14 (.one 15 .nil))))))) 13 (.one 1 (.one 9 (.one 10 (.one 11 (.one 12 (.one 14 (.one 15 .nil)))))))) 13 (.two 1 (.one 8 (.one 9 (.one 10 (.one 11 (.one 12 (.one 14 (.one 15 .nil))))))) 8 (.one 1 (.one 9 (.one 10 (.one 11 (.one 12 (.one 14 (.one 15 .nil)))))))))))))))) 15 w7a.heap.size w7a (by kernel_rfl) (by kernel_rfl) (by kernel_rfl) (fun _ _ _ _ _ h => h) (Below.refl _ _) (fun wd hBe => ?_)
          have hBe0 := hBe
          repeat (first | (apply o3_tk rfl (by rfl) (by rfl) (by rfl); (focus (intro wx hSw; have r1 := (hSw.cell (p := ⟨w3a.heap.size, 1, none⟩) lM).trans x1; go_simp; (try with_reducible rfl))); (try simp only [Act.put, List.setIfInBounds_toArray, List.set_cons_zero, List.set_cons_succ])) | (apply o3_skip rfl (by rfl) (by rfl) (fun _ => hBe); (try simp only [Act.put, List.setIfInBounds_toArray, List.set_cons_zero, List.set_cons_succ])))
          refine o3_three ?_ ?_ ?_
          · skip
            (refine o3_do rfl (by rfl) (by rfl) (fun K hK => ?_); go_simp; (try replace bX := bX.alloc (.cells #[.int .i64 x] 2)); (try replace bR := bR.alloc (.cells #[.int .i64 x] 2)); (try replace bY := bY.alloc (.cells #[.int .i64 x] 2)); (try replace ho1 := ho1.alloc (.cells #[.int .i64 x] 2)); (try replace ho2 := ho2.alloc (.cells #[.int .i64 x] 2)); have bX := blk_of hBe 2 #[.int .i64 x]; (try simp only [World.size_alloc] at bX); replace hBe := hBe.alloc hBe.size (.cells #[.int .i64 x] 2); refine hK.out _ _ (fun _ => hBe) ?_; (try simp only [Act.put, List.setIfInBounds_toArray, List.set_cons_zero, List.set_cons_succ]); clear hK K)
            refine o3_two ?_ ?_
            · skip
              (refine o3_do rfl (by rfl) (by rfl) (fun K hK => ?_); go_simp; (try replace bX := bX.alloc (.cells #[.int .i64 r] 2)); (try replace bR := bR.alloc (.cells #[.int .i64 r] 2)); (try replace bY := bY.alloc (.cells #[.int .i64 r] 2)); (try replace ho1 := ho1.alloc (.cells #[.int .i64 r] 2)); (try replace ho2 := ho2.alloc (.cells #[.int .i64 r] 2)); have bR := blk_of hBe 2 #[.int .i64 r]; (try simp only [World.size_alloc] at bR); replace hBe := hBe.alloc hBe.size (.cells #[.int .i64 r] 2); refine hK.out _ _ (fun _ => hBe) ?_; (try simp only [Act.put, List.setIfInBounds_toArray, List.set_cons_zero, List.set_cons_succ]); clear hK K)
              refine o3_two ?_ ?_
              · skip
                (refine o3_do rfl (by rfl) (by rfl) (fun K hK => ?_); go_simp; refine call_new (HMf.out _ _ _ (sl_on1 bX hx) (sl_on1 bR hr1)) R1.out R2.out ?_; intro w8 G1 e1 G2 e2 ho1 ho2 hb8; (try replace bY := bY.all hb8); replace hBe := hBe.trans (hb8.mono hBe.size); clear hb8 bX bR; refine hK.out _ _ (fun _ => hBe) ?_; (try simp only [Act.put, List.setIfInBounds_toArray, List.set_cons_zero, List.set_cons_succ]); clear hK K)
                repeat (first | (apply o3_tk rfl (by rfl) (by rfl) (by rfl); (focus (intro wx hSw; skip; go_simp; (try with_reducible rfl))); (try simp only [Act.put, List.setIfInBounds_toArray, List.set_cons_zero, List.set_cons_succ])) | (apply o3_skip rfl (by rfl) (by rfl) (fun _ => hBe); (try simp only [Act.put, List.setIfInBounds_toArray, List.set_cons_zero, List.set_cons_succ])))
                have hp1 := ho1
                have hp2 := ho2
                have hBp := hBe
                (refine o3_do rfl (by rfl) (by rfl) (fun K hK => ?_); go_simp; (try replace bX := bX.alloc (.cells #[.slice none 0 0, .int .i64 0, .slice none 0 0] 28)); (try replace bR := bR.alloc (.cells #[.slice none 0 0, .int .i64 0, .slice none 0 0] 28)); (try replace bY := bY.alloc (.cells #[.slice none 0 0, .int .i64 0, .slice none 0 0] 28)); (try replace ho1 := ho1.alloc (.cells #[.slice none 0 0, .int .i64 0, .slice none 0 0] 28)); (try replace ho2 := ho2.alloc (.cells #[.slice none 0 0, .int .i64 0, .slice none 0 0] 28)); have bY := blk_of hBe 28 #[.slice none 0 0, .int .i64 0, .slice none 0 0]; (try simp only [World.size_alloc] at bY); replace hBe := hBe.alloc hBe.size (.cells #[.slice none 0 0, .int .i64 0, .slice none 0 0] 28); refine hK.out _ _ (fun _ => hBe) ?_; (try simp only [Act.put, List.setIfInBounds_toArray, List.set_cons_zero, List.set_cons_succ]); clear hK K)
                have hOM := own_new (q := q) hp1 hp2 R1.out R2.out hBp
                refine o3_do rfl (by rfl) (by rfl) (fun K hK => ?_)
                go_simp
                (obtain ⟨_, _, _, _, -, -, -, hbo⟩ := id hOM)
                refine hK.out _ _ (fun _ => hbo) ?_
                (try simp only [Act.put, List.setIfInBounds_toArray, List.set_cons_zero, List.set_cons_succ])
                clear hK K
                repeat (first | (apply o3_tk rfl (by rfl) (by rfl) (by rfl); (focus (intro wx hSw; skip; go_simp; (try with_reducible rfl))); (try simp only [Act.put, List.setIfInBounds_toArray, List.set_cons_zero, List.set_cons_succ])) | (apply o3_skip rfl (by rfl) (by rfl) (fun _ => hBe); (try simp only [Act.put, List.setIfInBounds_toArray, List.set_cons_zero, List.set_cons_succ])))
                refine o3_do rfl (by rfl) (by rfl) (fun K hK => ?_)
                go_simp
                refine hK.out _ _ (fun h => absurd h (by omega)) ?_
                (try simp only [Act.put, List.setIfInBounds_toArray, List.set_cons_zero, List.set_cons_succ])
                clear hK K
                refine o3_nil ?_
                go_wp2_with fail
                go_meet
                exact ⟨_, rfl, rfl, hOM⟩
              · skip
                (refine o3_do rfl (by rfl) (by rfl) (fun K hK => ?_); go_simp; (try replace bX := bX.alloc (.cells #[.slice none 0 0, .int .i64 0, .slice none 0 0] 28)); (try replace bR := bR.alloc (.cells #[.slice none 0 0, .int .i64 0, .slice none 0 0] 28)); (try replace bY := bY.alloc (.cells #[.slice none 0 0, .int .i64 0, .slice none 0 0] 28)); (try replace ho1 := ho1.alloc (.cells #[.slice none 0 0, .int .i64 0, .slice none 0 0] 28)); (try replace ho2 := ho2.alloc (.cells #[.slice none 0 0, .int .i64 0, .slice none 0 0] 28)); have bY := blk_of hBe 28 #[.slice none 0 0, .int .i64 0, .slice none 0 0]; (try simp only [World.size_alloc] at bY); replace hBe := hBe.alloc hBe.size (.cells #[.slice none 0 0, .int .i64 0, .slice none 0 0] 28); refine hK.out _ _ (fun _ => hBe) ?_; (try simp only [Act.put, List.setIfInBounds_toArray, List.set_cons_zero, List.set_cons_succ]); clear hK K)
                (refine o3_do rfl (by rfl) (by rfl) (fun K hK => ?_); go_simp; refine call_new (HMf.out _ _ _ (sl_on1 bX hx) (sl_on1 bR hr1)) R1.out R2.out ?_; intro w8 G1 e1 G2 e2 ho1 ho2 hb8; (try replace bY := bY.all hb8); replace hBe := hBe.trans (hb8.mono hBe.size); clear hb8 bX bR; refine hK.out _ _ (fun _ => hBe) ?_; (try simp only [Act.put, List.setIfInBounds_toArray, List.set_cons_zero, List.set_cons_succ]); clear hK K)
                repeat (first | (apply o3_tk rfl (by rfl) (by rfl) (by rfl); (focus (intro wx hSw; skip; go_simp; (try with_reducible rfl))); (try simp only [Act.put, List.setIfInBounds_toArray, List.set_cons_zero, List.set_cons_succ])) | (apply o3_skip rfl (by rfl) (by rfl) (fun _ => hBe); (try simp only [Act.put, List.setIfInBounds_toArray, List.set_cons_zero, List.set_cons_succ])))
                have hOM := own_put (q := q) ho1 ho2 R1.out R2.out hBe bY (by have := hBe0.size; (try simp only [World.size_alloc]); omega)
                unfold put3 at hOM
                have y0 := bY.cell 0
                have y1 := bY.cell 1
                have y2 := bY.cell 2
                have g0 := bY.frozen 0
                have g1 := bY.frozen 1
                have g2 := bY.frozen 2
                refine o3_do rfl (by rfl) (by rfl) (fun K hK => ?_)
                go_simp
                (obtain ⟨_, _, _, _, -, -, -, hbo⟩ := id hOM)
                refine hK.out _ _ (fun _ => hbo) ?_
                (try simp only [Act.put, List.setIfInBounds_toArray, List.set_cons_zero, List.set_cons_succ])
                clear hK K
                repeat (first | (apply o3_tk rfl (by rfl) (by rfl) (by rfl); (focus (intro wx hSw; skip; go_simp; (try with_reducible rfl))); (try simp only [Act.put, List.setIfInBounds_toArray, List.set_cons_zero, List.set_cons_succ])) | (apply o3_skip rfl (by rfl) (by rfl) (fun _ => hBe); (try simp only [Act.put, List.setIfInBounds_toArray, List.set_cons_zero, List.set_cons_succ])))
                refine o3_do rfl (by rfl) (by rfl) (fun K hK => ?_)
                go_simp
                refine hK.out _ _ (fun h => absurd h (by omega)) ?_
                (try simp only [Act.put, List.setIfInBounds_toArray, List.set_cons_zero, List.set_cons_succ])
                clear hK K
                refine o3_nil ?_
                go_wp2_with fail
                go_meet
                exact ⟨_, rfl, rfl, hOM⟩
            · skip
              (refine o3_do rfl (by rfl) (by rfl) (fun K hK => ?_); go_simp; (try replace bX := bX.alloc (.cells #[.slice none 0 0, .int .i64 0, .slice none 0 0] 28)); (try replace bR := bR.alloc (.cells #[.slice none 0 0, .int .i64 0, .slice none 0 0] 28)); (try replace bY := bY.alloc (.cells #[.slice none 0 0, .int .i64 0, .slice none 0 0] 28)); (try replace ho1 := ho1.alloc (.cells #[.slice none 0 0, .int .i64 0, .slice none 0 0] 28)); (try replace ho2 := ho2.alloc (.cells #[.slice none 0 0, .int .i64 0, .slice none 0 0] 28)); have bY := blk_of hBe 28 #[.slice none 0 0, .int .i64 0, .slice none 0 0]; (try simp only [World.size_alloc] at bY); replace hBe := hBe.alloc hBe.size (.cells #[.slice none 0 0, .int .i64 0, .slice none 0 0] 28); refine hK.out _ _ (fun _ => hBe) ?_; (try simp only [Act.put, List.setIfInBounds_toArray, List.set_cons_zero, List.set_cons_succ]); clear hK K)
              (refine o3_do rfl (by rfl) (by rfl) (fun K hK => ?_); go_simp; (try replace bX := bX.alloc (.cells #[.int .i64 r] 2)); (try replace bR := bR.alloc (.cells #[.int .i64 r] 2)); (try replace bY := bY.alloc (.cells #[.int .i64 r] 2)); (try replace ho1 := ho1.alloc (.cells #[.int .i64 r] 2)); (try replace ho2 := ho2.alloc (.cells #[.int .i64 r] 2)); have bR := blk_of hBe 2 #[.int .i64 r]; (try simp only [World.size_alloc] at bR); replace hBe := hBe.alloc hBe.size (.cells #[.int .i64 r] 2); refine hK.out _ _ (fun _ => hBe) ?_; (try simp only [Act.put, List.setIfInBounds_toArray, List.set_cons_zero, List.set_cons_succ]); clear hK K)
              (refine o3_do rfl (by rfl) (by rfl) (fun K hK => ?_); go_simp; refine call_new (HMf.out _ _ _ (sl_on1 bX hx) (sl_on1 bR hr1)) R1.out R2.out ?_; intro w8 G1 e1 G2 e2 ho1 ho2 hb8; (try replace bY := bY.all hb8); replace hBe := hBe.trans (hb8.mono hBe.size); clear hb8 bX bR; refine hK.out _ _ (fun _ => hBe) ?_; (try simp only [Act.put, List.setIfInBounds_toArray, List.set_cons_zero, List.set_cons_succ]); clear hK K)
              repeat (first | (apply o3_tk rfl (by rfl) (by rfl) (by rfl); (focus (intro wx hSw; skip; go_simp; (try with_reducible rfl))); (try simp only [Act.put, List.setIfInBounds_toArray, List.set_cons_zero, List.set_cons_succ])) | (apply o3_skip rfl (by rfl) (by rfl) (fun _ => hBe); (try simp only [Act.put, List.setIfInBounds_toArray, List.set_cons_zero, List.set_cons_succ])))
              have hOM := own_put (q := q) ho1 ho2 R1.out R2.out hBe bY (by have := hBe0.size; (try simp only [World.size_alloc]); omega)
              unfold put3 at hOM
              have y0 := bY.cell 0
              have y1 := bY.cell 1
              have y2 := bY.cell 2
              have g0 := bY.frozen 0
              have g1 := bY.frozen 1
              have g2 := bY.frozen 2
              refine o3_do rfl (by rfl) (by rfl) (fun K hK => ?_)
              go_simp
              (obtain ⟨_, _, _, _, -, -, -, hbo⟩ := id hOM)
              refine hK.out _ _ (fun _ => hbo) ?_
              (try simp only [Act.put, List.setIfInBounds_toArray, List.set_cons_zero, List.set_cons_succ])
              clear hK K
              repeat (first | (apply o3_tk rfl (by rfl) (by rfl) (by rfl); (focus (intro wx hSw; skip; go_simp; (try with_reducible rfl))); (try simp only [Act.put, List.setIfInBounds_toArray, List.set_cons_zero, List.set_cons_succ])) | (apply o3_skip rfl (by rfl) (by rfl) (fun _ => hBe); (try simp only [Act.put, List.setIfInBounds_toArray, List.set_cons_zero, List.set_cons_succ])))
              refine o3_do rfl (by rfl) (by rfl) (fun K hK => ?_)
              go_simp
              refine hK.out _ _ (fun h => absurd h (by omega)) ?_
              (try simp only [Act.put, List.setIfInBounds_toArray, List.set_cons_zero, List.set_cons_succ])
              clear hK K
              refine o3_nil ?_
              go_wp2_with fail
              go_meet
              exact ⟨_, rfl, rfl, hOM⟩
          · skip
            (refine o3_do rfl (by rfl) (by rfl) (fun K hK => ?_); go_simp; (try replace bX := bX.alloc (.cells #[.int .i64 r] 2)); (try replace bR := bR.alloc (.cells #[.int .i64 r] 2)); (try replace bY := bY.alloc (.cells #[.int .i64 r] 2)); (try replace ho1 := ho1.alloc (.cells #[.int .i64 r] 2)); (try replace ho2 := ho2.alloc (.cells #[.int .i64 r] 2)); have bR := blk_of hBe 2 #[.int .i64 r]; (try simp only [World.size_alloc] at bR); replace hBe := hBe.alloc hBe.size (.cells #[.int .i64 r] 2); refine hK.out _ _ (fun _ => hBe) ?_; (try simp only [Act.put, List.setIfInBounds_toArray, List.set_cons_zero, List.set_cons_succ]); clear hK K)
            refine o3_two ?_ ?_
            · skip
              (refine o3_do rfl (by rfl) (by rfl) (fun K hK => ?_); go_simp; (try replace bX := bX.alloc (.cells #[.int .i64 x] 2)); (try replace bR := bR.alloc (.cells #[.int .i64 x] 2)); (try replace bY := bY.alloc (.cells #[.int .i64 x] 2)); (try replace ho1 := ho1.alloc (.cells #[.int .i64 x] 2)); (try replace ho2 := ho2.alloc (.cells #[.int .i64 x] 2)); have bX := blk_of hBe 2 #[.int .i64 x]; (try simp only [World.size_alloc] at bX); replace hBe := hBe.alloc hBe.size (.cells #[.int .i64 x] 2); refine hK.out _ _ (fun _ => hBe) ?_; (try simp only [Act.put, List.setIfInBounds_toArray, List.set_cons_zero, List.set_cons_succ]); clear hK K)
              refine o3_two ?_ ?_
              · skip
                (refine o3_do rfl (by rfl) (by rfl) (fun K hK => ?_); go_simp; refine call_new (HMf.out _ _ _ (sl_on1 bX hx) (sl_on1 bR hr1)) R1.out R2.out ?_; intro w8 G1 e1 G2 e2 ho1 ho2 hb8; (try replace bY := bY.all hb8); replace hBe := hBe.trans (hb8.mono hBe.size); clear hb8 bX bR; refine hK.out _ _ (fun _ => hBe) ?_; (try simp only [Act.put, List.setIfInBounds_toArray, List.set_cons_zero, List.set_cons_succ]); clear hK K)
                repeat (first | (apply o3_tk rfl (by rfl) (by rfl) (by rfl); (focus (intro wx hSw; skip; go_simp; (try with_reducible rfl))); (try simp only [Act.put, List.setIfInBounds_toArray, List.set_cons_zero, List.set_cons_succ])) | (apply o3_skip rfl (by rfl) (by rfl) (fun _ => hBe); (try simp only [Act.put, List.setIfInBounds_toArray, List.set_cons_zero, List.set_cons_succ])))
                have hp1 := ho1
                have hp2 := ho2
                have hBp := hBe
                (refine o3_do rfl (by rfl) (by rfl) (fun K hK => ?_); go_simp; (try replace bX := bX.alloc (.cells #[.slice none 0 0, .int .i64 0, .slice none 0 0] 28)); (try replace bR := bR.alloc (.cells #[.slice none 0 0, .int .i64 0, .slice none 0 0] 28)); (try replace bY := bY.alloc (.cells #[.slice none 0 0, .int .i64 0, .slice none 0 0] 28)); (try replace ho1 := ho1.alloc (.cells #[.slice none 0 0, .int .i64 0, .slice none 0 0] 28)); (try replace ho2 := ho2.alloc (.cells #[.slice none 0 0, .int .i64 0, .slice none 0 0] 28)); have bY := blk_of hBe 28 #[.slice none 0 0, .int .i64 0, .slice none 0 0]; (try simp only [World.size_alloc] at bY); replace hBe := hBe.alloc hBe.size (.cells #[.slice none 0 0, .int .i64 0, .slice none 0 0] 28); refine hK.out _ _ (fun _ => hBe) ?_; (try simp only [Act.put, List.setIfInBounds_toArray, List.set_cons_zero, List.set_cons_succ]); clear hK K)
                have hOM := own_new (q := q) hp1 hp2 R1.out R2.out hBp
                refine o3_do rfl (by rfl) (by rfl) (fun K hK => ?_)
                go_simp
                (obtain ⟨_, _, _, _, -, -, -, hbo⟩ := id hOM)
                refine hK.out _ _ (fun _ => hbo) ?_
                (try simp only [Act.put, List.setIfInBounds_toArray, List.set_cons_zero, List.set_cons_succ])
                clear hK K
                repeat (first | (apply o3_tk rfl (by rfl) (by rfl) (by rfl); (focus (intro wx hSw; skip; go_simp; (try with_reducible rfl))); (try simp only [Act.put, List.setIfInBounds_toArray, List.set_cons_zero, List.set_cons_succ])) | (apply o3_skip rfl (by rfl) (by rfl) (fun _ => hBe); (try simp only [Act.put, List.setIfInBounds_toArray, List.set_cons_zero, List.set_cons_succ])))
                refine o3_do rfl (by rfl) (by rfl) (fun K hK => ?_)
                go_simp
                refine hK.out _ _ (fun h => absurd h (by omega)) ?_
                (try simp only [Act.put, List.setIfInBounds_toArray, List.set_cons_zero, List.set_cons_succ])
                clear hK K
                refine o3_nil ?_
                go_wp2_with fail
                go_meet
                exact ⟨_, rfl, rfl, hOM⟩
              · skip
                (refine o3_do rfl (by rfl) (by rfl) (fun K hK => ?_); go_simp; (try replace bX := bX.alloc (.cells #[.slice none 0 0, .int .i64 0, .slice none 0 0] 28)); (try replace bR := bR.alloc (.cells #[.slice none 0 0, .int .i64 0, .slice none 0 0] 28)); (try replace bY := bY.alloc (.cells #[.slice none 0 0, .int .i64 0, .slice none 0 0] 28)); (try replace ho1 := ho1.alloc (.cells #[.slice none 0 0, .int .i64 0, .slice none 0 0] 28)); (try replace ho2 := ho2.alloc (.cells #[.slice none 0 0, .int .i64 0, .slice none 0 0] 28)); have bY := blk_of hBe 28 #[.slice none 0 0, .int .i64 0, .slice none 0 0]; (try simp only [World.size_alloc] at bY); replace hBe := hBe.alloc hBe.size (.cells #[.slice none 0 0, .int .i64 0, .slice none 0 0] 28); refine hK.out _ _ (fun _ => hBe) ?_; (try simp only [Act.put, List.setIfInBounds_toArray, List.set_cons_zero, List.set_cons_succ]); clear hK K)
                (refine o3_do rfl (by rfl) (by rfl) (fun K hK => ?_); go_simp; refine call_new (HMf.out _ _ _ (sl_on1 bX hx) (sl_on1 bR hr1)) R1.out R2.out ?_; intro w8 G1 e1 G2 e2 ho1 ho2 hb8; (try replace bY := bY.all hb8); replace hBe := hBe.trans (hb8.mono hBe.size); clear hb8 bX bR; refine hK.out _ _ (fun _ => hBe) ?_; (try simp only [Act.put, List.setIfInBounds_toArray, List.set_cons_zero, List.set_cons_succ]); clear hK K)
                repeat (first | (apply o3_tk rfl (by rfl) (by rfl) (by rfl); (focus (intro wx hSw; skip; go_simp; (try with_reducible rfl))); (try simp only [Act.put, List.setIfInBounds_toArray, List.set_cons_zero, List.set_cons_succ])) | (apply o3_skip rfl (by rfl) (by rfl) (fun _ => hBe); (try simp only [Act.put, List.setIfInBounds_toArray, List.set_cons_zero, List.set_cons_succ])))
                have hOM := own_put (q := q) ho1 ho2 R1.out R2.out hBe bY (by have := hBe0.size; (try simp only [World.size_alloc]); omega)
                unfold put3 at hOM
                have y0 := bY.cell 0
                have y1 := bY.cell 1
                have y2 := bY.cell 2
                have g0 := bY.frozen 0
                have g1 := bY.frozen 1
                have g2 := bY.frozen 2
                refine o3_do rfl (by rfl) (by rfl) (fun K hK => ?_)
                go_simp
                (obtain ⟨_, _, _, _, -, -, -, hbo⟩ := id hOM)
                refine hK.out _ _ (fun _ => hbo) ?_
                (try simp only [Act.put, List.setIfInBounds_toArray, List.set_cons_zero, List.set_cons_succ])
                clear hK K
                repeat (first | (apply o3_tk rfl (by rfl) (by rfl) (by rfl); (focus (intro wx hSw; skip; go_simp; (try with_reducible rfl))); (try simp only [Act.put, List.setIfInBounds_toArray, List.set_cons_zero, List.set_cons_succ])) | (apply o3_skip rfl (by rfl) (by rfl) (fun _ => hBe); (try simp only [Act.put, List.setIfInBounds_toArray, List.set_cons_zero, List.set_cons_succ])))
                refine o3_do rfl (by rfl) (by rfl) (fun K hK => ?_)
                go_simp
                refine hK.out _ _ (fun h => absurd h (by omega)) ?_
                (try simp only [Act.put, List.setIfInBounds_toArray, List.set_cons_zero, List.set_cons_succ])
                clear hK K
                refine o3_nil ?_
                go_wp2_with fail
                go_meet
                exact ⟨_, rfl, rfl, hOM⟩
            · skip
              (refine o3_do rfl (by rfl) (by rfl) (fun K hK => ?_); go_simp; (try replace bX := bX.alloc (.cells #[.slice none 0 0, .int .i64 0, .slice none 0 0] 28)); (try replace bR := bR.alloc (.cells #[.slice none 0 0, .int .i64 0, .slice none 0 0] 28)); (try replace bY := bY.alloc (.cells #[.slice none 0 0, .int .i64 0, .slice none 0 0] 28)); (try replace ho1 := ho1.alloc (.cells #[.slice none 0 0, .int .i64 0, .slice none 0 0] 28)); (try replace ho2 := ho2.alloc (.cells #[.slice none 0 0, .int .i64 0, .slice none 0 0] 28)); have bY := blk_of hBe 28 #[.slice none 0 0, .int .i64 0, .slice none 0 0]; (try simp only [World.size_alloc] at bY); replace hBe := hBe.alloc hBe.size (.cells #[.slice none 0 0, .int .i64 0, .slice none 0 0] 28); refine hK.out _ _ (fun _ => hBe) ?_; (try simp only [Act.put, List.setIfInBounds_toArray, List.set_cons_zero, List.set_cons_succ]); clear hK K)
              (refine o3_do rfl (by rfl) (by rfl) (fun K hK => ?_); go_simp; (try replace bX := bX.alloc (.cells #[.int .i64 x] 2)); (try replace bR := bR.alloc (.cells #[.int .i64 x] 2)); (try replace bY := bY.alloc (.cells #[.int .i64 x] 2)); (try replace ho1 := ho1.alloc (.cells #[.int .i64 x] 2)); (try replace ho2 := ho2.alloc (.cells #[.int .i64 x] 2)); have bX := blk_of hBe 2 #[.int .i64 x]; (try simp only [World.size_alloc] at bX); replace hBe := hBe.alloc hBe.size (.cells #[.int .i64 x] 2); refine hK.out _ _ (fun _ => hBe) ?_; (try simp only [Act.put, List.setIfInBounds_toArray, List.set_cons_zero, List.set_cons_succ]); clear hK K)
              (refine o3_do rfl (by rfl) (by rfl) (fun K hK => ?_); go_simp; refine call_new (HMf.out _ _ _ (sl_on1 bX hx) (sl_on1 bR hr1)) R1.out R2.out ?_; intro w8 G1 e1 G2 e2 ho1 ho2 hb8; (try replace bY := bY.all hb8); replace hBe := hBe.trans (hb8.mono hBe.size); clear hb8 bX bR; refine hK.out _ _ (fun _ => hBe) ?_; (try simp only [Act.put, List.setIfInBounds_toArray, List.set_cons_zero, List.set_cons_succ]); clear hK K)
              repeat (first | (apply o3_tk rfl (by rfl) (by rfl) (by rfl); (focus (intro wx hSw; skip; go_simp; (try with_reducible rfl))); (try simp only [Act.put, List.setIfInBounds_toArray, List.set_cons_zero, List.set_cons_succ])) | (apply o3_skip rfl (by rfl) (by rfl) (fun _ => hBe); (try simp only [Act.put, List.setIfInBounds_toArray, List.set_cons_zero, List.set_cons_succ])))
              have hOM := own_put (q := q) ho1 ho2 R1.out R2.out hBe bY (by have := hBe0.size; (try simp only [World.size_alloc]); omega)
              unfold put3 at hOM
              have y0 := bY.cell 0
              have y1 := bY.cell 1
              have y2 := bY.cell 2
              have g0 := bY.frozen 0
              have g1 := bY.frozen 1
              have g2 := bY.frozen 2
              refine o3_do rfl (by rfl) (by rfl) (fun K hK => ?_)
              go_simp
              (obtain ⟨_, _, _, _, -, -, -, hbo⟩ := id hOM)
              refine hK.out _ _ (fun _ => hbo) ?_
              (try simp only [Act.put, List.setIfInBounds_toArray, List.set_cons_zero, List.set_cons_succ])
              clear hK K
              repeat (first | (apply o3_tk rfl (by rfl) (by rfl) (by rfl); (focus (intro wx hSw; skip; go_simp; (try with_reducible rfl))); (try simp only [Act.put, List.setIfInBounds_toArray, List.set_cons_zero, List.set_cons_succ])) | (apply o3_skip rfl (by rfl) (by rfl) (fun _ => hBe); (try simp only [Act.put, List.setIfInBounds_toArray, List.set_cons_zero, List.set_cons_succ])))
              refine o3_do rfl (by rfl) (by rfl) (fun K hK => ?_)
              go_simp
              refine hK.out _ _ (fun h => absurd h (by omega)) ?_
              (try simp only [Act.put, List.setIfInBounds_toArray, List.set_cons_zero, List.set_cons_succ])
              clear hK K
              refine o3_nil ?_
              go_wp2_with fail
              go_meet
              exact ⟨_, rfl, rfl, hOM⟩
          · skip
            (refine o3_do rfl (by rfl) (by rfl) (fun K hK => ?_); go_simp; (try replace bX := bX.alloc (.cells #[.slice none 0 0, .int .i64 0, .slice none 0 0] 28)); (try replace bR := bR.alloc (.cells #[.slice none 0 0, .int .i64 0, .slice none 0 0] 28)); (try replace bY := bY.alloc (.cells #[.slice none 0 0, .int .i64 0, .slice none 0 0] 28)); (try replace ho1 := ho1.alloc (.cells #[.slice none 0 0, .int .i64 0, .slice none 0 0] 28)); (try replace ho2 := ho2.alloc (.cells #[.slice none 0 0, .int .i64 0, .slice none 0 0] 28)); have bY := blk_of hBe 28 #[.slice none 0 0, .int .i64 0, .slice none 0 0]; (try simp only [World.size_alloc] at bY); replace hBe := hBe.alloc hBe.size (.cells #[.slice none 0 0, .int .i64 0, .slice none 0 0] 28); refine hK.out _ _ (fun _ => hBe) ?_; (try simp only [Act.put, List.setIfInBounds_toArray, List.set_cons_zero, List.set_cons_succ]); clear hK K)
            refine o3_two ?_ ?_
            · skip
              (refine o3_do rfl (by rfl) (by rfl) (fun K hK => ?_); go_simp; (try replace bX := bX.alloc (.cells #[.int .i64 x] 2)); (try replace bR := bR.alloc (.cells #[.int .i64 x] 2)); (try replace bY := bY.alloc (.cells #[.int .i64 x] 2)); (try replace ho1 := ho1.alloc (.cells #[.int .i64 x] 2)); (try replace ho2 := ho2.alloc (.cells #[.int .i64 x] 2)); have bX := blk_of hBe 2 #[.int .i64 x]; (try simp only [World.size_alloc] at bX); replace hBe := hBe.alloc hBe.size (.cells #[.int .i64 x] 2); refine hK.out _ _ (fun _ => hBe) ?_; (try simp only [Act.put, List.setIfInBounds_toArray, List.set_cons_zero, List.set_cons_succ]); clear hK K)
              (refine o3_do rfl (by rfl) (by rfl) (fun K hK => ?_); go_simp; (try replace bX := bX.alloc (.cells #[.int .i64 r] 2)); (try replace bR := bR.alloc (.cells #[.int .i64 r] 2)); (try replace bY := bY.alloc (.cells #[.int .i64 r] 2)); (try replace ho1 := ho1.alloc (.cells #[.int .i64 r] 2)); (try replace ho2 := ho2.alloc (.cells #[.int .i64 r] 2)); have bR := blk_of hBe 2 #[.int .i64 r]; (try simp only [World.size_alloc] at bR); replace hBe := hBe.alloc hBe.size (.cells #[.int .i64 r] 2); refine hK.out _ _ (fun _ => hBe) ?_; (try simp only [Act.put, List.setIfInBounds_toArray, List.set_cons_zero, List.set_cons_succ]); clear hK K)
              (refine o3_do rfl (by rfl) (by rfl) (fun K hK => ?_); go_simp; refine call_new (HMf.out _ _ _ (sl_on1 bX hx) (sl_on1 bR hr1)) R1.out R2.out ?_; intro w8 G1 e1 G2 e2 ho1 ho2 hb8; (try replace bY := bY.all hb8); replace hBe := hBe.trans (hb8.mono hBe.size); clear hb8 bX bR; refine hK.out _ _ (fun _ => hBe) ?_; (try simp only [Act.put, List.setIfInBounds_toArray, List.set_cons_zero, List.set_cons_succ]); clear hK K)
              repeat (first | (apply o3_tk rfl (by rfl) (by rfl) (by rfl); (focus (intro wx hSw; skip; go_simp; (try with_reducible rfl))); (try simp only [Act.put, List.setIfInBounds_toArray, List.set_cons_zero, List.set_cons_succ])) | (apply o3_skip rfl (by rfl) (by rfl) (fun _ => hBe); (try simp only [Act.put, List.setIfInBounds_toArray, List.set_cons_zero, List.set_cons_succ])))
              have hOM := own_put (q := q) ho1 ho2 R1.out R2.out hBe bY (by have := hBe0.size; (try simp only [World.size_alloc]); omega)
              unfold put3 at hOM
              have y0 := bY.cell 0
              have y1 := bY.cell 1
              have y2 := bY.cell 2
              have g0 := bY.frozen 0
              have g1 := bY.frozen 1
              have g2 := bY.frozen 2
              refine o3_do rfl (by rfl) (by rfl) (fun K hK => ?_)
              go_simp
              (obtain ⟨_, _, _, _, -, -, -, hbo⟩ := id hOM)
              refine hK.out _ _ (fun _ => hbo) ?_
              (try simp only [Act.put, List.setIfInBounds_toArray, List.set_cons_zero, List.set_cons_succ])
              clear hK K
              repeat (first | (apply o3_tk rfl (by rfl) (by rfl) (by rfl); (focus (intro wx hSw; skip; go_simp; (try with_reducible rfl))); (try simp only [Act.put, List.setIfInBounds_toArray, List.set_cons_zero, List.set_cons_succ])) | (apply o3_skip rfl (by rfl) (by rfl) (fun _ => hBe); (try simp only [Act.put, List.setIfInBounds_toArray, List.set_cons_zero, List.set_cons_succ])))
              refine o3_do rfl (by rfl) (by rfl) (fun K hK => ?_)
              go_simp
              refine hK.out _ _ (fun h => absurd h (by omega)) ?_
              (try simp only [Act.put, List.setIfInBounds_toArray, List.set_cons_zero, List.set_cons_succ])
              clear hK K
              refine o3_nil ?_
              go_wp2_with fail
              go_meet
              exact ⟨_, rfl, rfl, hOM⟩
            · skip
              (refine o3_do rfl (by rfl) (by rfl) (fun K hK => ?_); go_simp; (try replace bX := bX.alloc (.cells #[.int .i64 r] 2)); (try replace bR := bR.alloc (.cells #[.int .i64 r] 2)); (try replace bY := bY.alloc (.cells #[.int .i64 r] 2)); (try replace ho1 := ho1.alloc (.cells #[.int .i64 r] 2)); (try replace ho2 := ho2.alloc (.cells #[.int .i64 r] 2)); have bR := blk_of hBe 2 #[.int .i64 r]; (try simp only [World.size_alloc] at bR); replace hBe := hBe.alloc hBe.size (.cells #[.int .i64 r] 2); refine hK.out _ _ (fun _ => hBe) ?_; (try simp only [Act.put, List.setIfInBounds_toArray, List.set_cons_zero, List.set_cons_succ]); clear hK K)
              (refine o3_do rfl (by rfl) (by rfl) (fun K hK => ?_); go_simp; (try replace bX := bX.alloc (.cells #[.int .i64 x] 2)); (try replace bR := bR.alloc (.cells #[.int .i64 x] 2)); (try replace bY := bY.alloc (.cells #[.int .i64 x] 2)); (try replace ho1 := ho1.alloc (.cells #[.int .i64 x] 2)); (try replace ho2 := ho2.alloc (.cells #[.int .i64 x] 2)); have bX := blk_of hBe 2 #[.int .i64 x]; (try simp only [World.size_alloc] at bX); replace hBe := hBe.alloc hBe.size (.cells #[.int .i64 x] 2); refine hK.out _ _ (fun _ => hBe) ?_; (try simp only [Act.put, List.setIfInBounds_toArray, List.set_cons_zero, List.set_cons_succ]); clear hK K)
              (refine o3_do rfl (by rfl) (by rfl) (fun K hK => ?_); go_simp; refine call_new (HMf.out _ _ _ (sl_on1 bX hx) (sl_on1 bR hr1)) R1.out R2.out ?_; intro w8 G1 e1 G2 e2 ho1 ho2 hb8; (try replace bY := bY.all hb8); replace hBe := hBe.trans (hb8.mono hBe.size); clear hb8 bX bR; refine hK.out _ _ (fun _ => hBe) ?_; (try simp only [Act.put, List.setIfInBounds_toArray, List.set_cons_zero, List.set_cons_succ]); clear hK K)
              repeat (first | (apply o3_tk rfl (by rfl) (by rfl) (by rfl); (focus (intro wx hSw; skip; go_simp; (try with_reducible rfl))); (try simp only [Act.put, List.setIfInBounds_toArray, List.set_cons_zero, List.set_cons_succ])) | (apply o3_skip rfl (by rfl) (by rfl) (fun _ => hBe); (try simp only [Act.put, List.setIfInBounds_toArray, List.set_cons_zero, List.set_cons_succ])))
              have hOM := own_put (q := q) ho1 ho2 R1.out R2.out hBe bY (by have := hBe0.size; (try simp only [World.size_alloc]); omega)
              unfold put3 at hOM
              have y0 := bY.cell 0
              have y1 := bY.cell 1
              have y2 := bY.cell 2
              have g0 := bY.frozen 0
              have g1 := bY.frozen 1
              have g2 := bY.frozen 2
              refine o3_do rfl (by rfl) (by rfl) (fun K hK => ?_)
              go_simp
              (obtain ⟨_, _, _, _, -, -, -, hbo⟩ := id hOM)
              refine hK.out _ _ (fun _ => hbo) ?_
              (try simp only [Act.put, List.setIfInBounds_toArray, List.set_cons_zero, List.set_cons_succ])
              clear hK K
              repeat (first | (apply o3_tk rfl (by rfl) (by rfl) (by rfl); (focus (intro wx hSw; skip; go_simp; (try with_reducible rfl))); (try simp only [Act.put, List.setIfInBounds_toArray, List.set_cons_zero, List.set_cons_succ])) | (apply o3_skip rfl (by rfl) (by rfl) (fun _ => hBe); (try simp only [Act.put, List.setIfInBounds_toArray, List.set_cons_zero, List.set_cons_succ])))
              refine o3_do rfl (by rfl) (by rfl) (fun K hK => ?_)
              go_simp
              refine hK.out _ _ (fun h => absurd h (by omega)) ?_
              (try simp only [Act.put, List.setIfInBounds_toArray, List.set_cons_zero, List.set_cons_succ])
              clear hK K
              refine o3_nil ?_
              go_wp2_with fail
              go_meet
              exact ⟨_, rfl, rfl, hOM⟩
        case rest =>
          clear HMf x0 x1 x2 lM
          obtain ⟨Y, rfl, rfl, D1, e1, D2, e2, bY, sY1, sY2, hbo⟩ := hcut
          have bN := bMa.all hbo
          have sN1 := (s1a.below hbo).more hbo.size
          have sN2 := (s2a.below hbo).more hbo.size
          replace kk := kk.trans (hbo.mono (by omega))
          have hszo := hbo.size
          clear hbo bMa s1a s2a
          have y0 := bY.cell 0
          have y1 := bY.cell 1
          have y2 := bY.cell 2
          have z0 := bN.cell 0
          have z1 := bN.cell 1
          have z2 := bN.cell 2
          have lY := bY.lt
          have lN := bN.lt
          go_wp2_with fail
          clear y0 y1 y2 z0 z1 z2
          refine (likeM_any _ _ _ _ _ _ _ _ _ _ _ _ _ _ _ _ _ _ _ _ sY1 sY2 sN1 sN2 (Nat.le_refl _) (by omega) (by omega)).mono ?_
          rintro e w8 ⟨rfl, hb5⟩
          simp only [beq_self_eq_true, Bool.and_self]
          replace kk := kk.trans (hb5.mono (by omega))
          replace bN := bN.all hb5
          replace sN1 := (sN1.below hb5).more hb5.size
          replace sN2 := (sN2.below hb5).more hb5.size
          clear hb5 sY1 sY2 bY
          have z0 := bN.cell 0
          have z1 := bN.cell 1
          have z2 := bN.cell 2
          go_wp2_with fail
          refine (implIs_v true _ _ _ _ _ _ _ _ _ _ sN1 sN2 (by omega) (by omega) HM.out.2.2).mono ?_
          rintro e w9 ⟨rfl, hb6⟩
          replace kk := kk.trans (hb6.mono (by have := kk.size; omega))
          clear z0 z1 z2
          go_wp2_with fail
          go_meet
          exact kk
      · have hcz : (code == 0) = false := by rw [beq_eq_false_iff_ne]; exact h0
        go_wp2_with fail
        go_meet
        exact kk
    case rest =>
      clear kk s1a s2a bMa HF R1 R2 hs hi
      have kk := hcut
      have hsz := kk.size
      clear hcut
      go_wp2_with fail
      refine (drawHyper_any wc A n c bs (hS.keep kk hsz) hn).mono ?_
      rintro e w2 ⟨x, rfl, hx, hb2⟩
      replace kk := kk.trans (hb2.mono hsz)
      have hsz2 := hb2.size
      clear hb2
      obtain ⟨os, q, vs, code, hs, hi, HL, hf⟩ := hyp_both x hx
      obtain ⟨l1, l2, r1, r2⟩ := HL
      have R1 := hide r1
      have R2 := hide r2
      have HF := hide hf
      clear r1 r2 hf
      go_wp2_with fail
      refine (Hid.out hi _).mono ?_
      rintro e w3b ⟨v1, v2, rfl, ho1, ho2, -, hb3⟩
      obtain ⟨A1b, c1b, rfl, s1b⟩ := ho1.sl (Hid.out R1)
      obtain ⟨A2b, c2b, rfl, s2b⟩ := ho2.sl (Hid.out R2)
      replace kk := kk.trans (hb3.mono (by omega))
      have hsz3b := hb3.size
      clear hb3 ho1 ho2
      go_wp2_with fail
      obtain ⟨w4b, hwx⟩ : ∃ w', World.alloc w3b (.cells #[.slice A1b (List.length os) c1b, .int .i64 q, .slice A2b (List.length vs) c2b] 28) = w' := ⟨_, rfl⟩
      have k3 : Below (World.heap w3b).size w3b w4b := hwx ▸ (Below.refl _ _).alloc (Nat.le_refl _) _
      have bMb : Blk w4b (World.heap w3b).size 28 #[.slice A1b (List.length os) c1b, .int .i64 q, .slice A2b (List.length vs) c2b] := hwx ▸ Blk.new _ _ _
      rw [hwx]
      clear hwx
      replace s1b := (s1b.below k3).more k3.size
      replace s2b := (s2b.below k3).more k3.size
      replace kk := kk.trans (k3.mono (by omega))
      have hsz4b := k3.size
      refine (Hid.out hs _).mono ?_
      rintro e w5b ⟨v1, v2, rfl, ho1, ho2, -, hb4⟩
      obtain ⟨B1b, d1b, rfl, t1b⟩ := ho1.sl (Hid.out R1)
      obtain ⟨B2b, d2b, rfl, t2b⟩ := ho2.sl (Hid.out R2)
      replace bMb := bMb.all hb4
      replace s1b := (s1b.below hb4).more hb4.size
      replace s2b := (s2b.below hb4).more hb4.size
      replace kk := kk.trans (hb4.mono (by omega))
      have hsz5b := hb4.size
      clear hb4 ho1 ho2 k3
      have x0 := bMb.cell 0
      have x1 := bMb.cell 1
      have x2 := bMb.cell 2
      have lM := bMb.lt
      have hcc : (code != code) = false := by simp
      go_wp2_with fail
      clear x0 x1 x2 lM
      obtain ⟨w6b, hwx⟩ : ∃ w', World.alloc w5b (.cells #[.slice B1b (List.length os) d1b, .int .i64 q, .slice B2b (List.length vs) d2b] 28) = w' := ⟨_, rfl⟩
      have k4 : Below (World.heap w5b).size w5b w6b := hwx ▸ (Below.refl _ _).alloc (Nat.le_refl _) _
      have bWb : Blk w6b (World.heap w5b).size 28 #[.slice B1b (List.length os) d1b, .int .i64 q, .slice B2b (List.length vs) d2b] := hwx ▸ Blk.new _ _ _
      rw [hwx]
      clear hwx
      replace s1b := (s1b.below k4).more k4.size
      replace s2b := (s2b.below k4).more k4.size
      replace t1b := (t1b.below k4).more k4.size
      replace t2b := (t2b.below k4).more k4.size
      replace kk := kk.trans (k4.mono (by omega))
      replace bMb := bMb.all k4
      have hsz6b := k4.size
      clear k4 hcc
      refine (likeM_any _ _ _ _ _ _ _ _ _ _ _ _ _ _ _ _ _ _ _ _ s1b s2b t1b t2b (Nat.le_refl _) (by omega) (by omega)).mono ?_
      rintro e w7b ⟨rfl, hb5⟩
      simp only [beq_self_eq_true, Bool.and_self]
      replace s1b := (s1b.below hb5).more hb5.size
      replace s2b := (s2b.below hb5).more hb5.size
      replace kk := kk.trans (hb5.mono (by omega))
      replace bMb := bMb.all hb5
      have hsz7b := hb5.size
      clear hb5 t1b t2b bWb
      go_upto_if 108 with fail
      go_cut [] (fun wx => Below w.heap.size w wx)
      case first =>
        by_cases h0 : code = 0
        · obtain ⟨hos, rfl, hq2, hq4, f1, f2, f3, f4, f5, f6⟩ := HF.out h0
          subst h0
          have hMf : ∀ (W : World) (D1 D2 D3 : Nat), Sl W W.heap.size (some ⟨D1, 0, none⟩) 2 2 [q, q] → Sl W W.heap.size (some ⟨D2, 0, none⟩) 2 2 [0, 0] → Sl W W.heap.size (some ⟨D3, 0, none⟩) 1 1 [1] → Calls Try.prog 50 #[.slice (some ⟨D1, 0, none⟩) 2 2, .int .i64 q, .slice (some ⟨D2, 0, none⟩) 2 2, .slice (some ⟨D3, 0, none⟩) 1 1] W (MkM W os q vs 0) := by
            intro W D1 D2 D3 g1 g2 g3
            have := impl_Mf_any W (some ⟨D1, 0, none⟩) 2 2 [q, q] q (some ⟨D2, 0, none⟩) 2 2 [0, 0] (some ⟨D3, 0, none⟩) 1 1 [1] g1 g2 g3 (by omega) (by omega) (by omega)
            rw [f1, f2, gF_0, gF_0, gFI_0, ← hos] at this
            exact this
          rw [← hos] at f3 f4 f5 f6
          have HMf := hide hMf
          have HG := hide (fun W A n c A' n' c' (h : Sl W W.heap.size A n c os) (h' : Sl W W.heap.size A' n' c' vs) hn hn' => by
            have := impl_Gauss_any W A n c os q A' n' c' vs 1 h h' hn hn'
            rw [f4, f5] at this
            exact this)
          have HN := hide (fun W A n c A' n' c' (h : Sl W W.heap.size A n c os) (h' : Sl W W.heap.size A' n' c' vs) hn hn' => by
            have := impl_Ndg_any W A n c os q A' n' c' vs h h' hn hn'
            rw [f6, f3] at this
            exact this)
          clear hMf f1 f2 f3 f4 f5 f6 hos
          have x0 := bMb.cell 0
          have x1 := bMb.cell 1
          have x2 := bMb.cell 2
          have lM := bMb.lt
          go_wp2_with fail
          clear x0 x1 x2 lM
          obtain ⟨W3, hW3⟩ : ∃ W3, ((w7b.alloc (.cells #[.int .i64 q, .int .i64 q] 2)).alloc (.cells #[.int .i64 0, .int .i64 0] 2)).alloc (.cells #[.int .i64 1] 2) = W3 := ⟨_, rfl⟩
          have k8 : Below w7b.heap.size w7b W3 := by rw [← hW3]; exact (by repeat (first | assumption | exact Below.refl _ _ | apply below_drewN | apply Below.drew | apply Below.alloc | apply Below.setCell | omega | (focus (simp; done)) | (focus (simp; omega))))
          have hz1 : i64ok 0 := ⟨by omega, by omega⟩
          have ho1' : i64ok 1 := ⟨by omega, by omega⟩
          have g1 : Sl W3 W3.heap.size (some ⟨w7b.heap.size, 0, none⟩) 2 2 [q, q] := sl_on2 (by rw [← hW3]; exact ((Blk.new _ _ _).alloc _).alloc _) hx hx
          have g2 : Sl W3 W3.heap.size (some ⟨w7b.heap.size + 1, 0, none⟩) 2 2 [0, 0] := sl_on2 (by rw [← hW3]; exact (Blk.new' _ _ _ _ (by simp)).alloc _) hz1 hz1
          have g3 : Sl W3 W3.heap.size (some ⟨w7b.heap.size + 1 + 1, 0, none⟩) 1 1 [1] := sl_on1 (by rw [← hW3]; exact Blk.new' _ _ _ _ (by simp)) ho1'
          rw [hW3]
          clear hW3
          replace kk := kk.trans (k8.mono (by have := kk.size; omega))
          replace bMb := bMb.all k8
          replace s1b := (s1b.below k8).more k8.size
          replace s2b := (s2b.below k8).more k8.size
          refine (HMf.out W3 _ _ _ g1 g2 g3).mono ?_
          rintro e w8 ⟨v1, v2, rfl, ho1, ho2, -, hb⟩
          obtain ⟨C1, e1, rfl, t1⟩ := ho1.sl (Hid.out R1)
          obtain ⟨C2, e2, rfl, t2⟩ := ho2.sl (Hid.out R2)
          replace kk := kk.trans (hb.mono (by have := kk.size; omega))
          replace bMb := bMb.all hb
          replace s1b := (s1b.below hb).more hb.size
          replace s2b := (s2b.below hb).more hb.size
          clear hb ho1 ho2 g1 g2 g3 k8 HMf
          have x0 := bMb.cell 0
          have x1 := bMb.cell 1
          have x2 := bMb.cell 2
          have lM := bMb.lt
          go_wp2_with fail
          clear x0 x1 x2 lM
          obtain ⟨w9, hwx⟩ : ∃ w', World.alloc w8 (.cells #[.slice C1 (List.length os) e1, .int .i64 q, .slice C2 (List.length vs) e2] 28) = w' := ⟨_, rfl⟩
          have k9 : Below (World.heap w8).size w8 w9 := hwx ▸ (Below.refl _ _).alloc (Nat.le_refl _) _
          have bO : Blk w9 (World.heap w8).size 28 #[.slice C1 (List.length os) e1, .int .i64 q, .slice C2 (List.length vs) e2] := hwx ▸ Blk.new _ _ _
          rw [hwx]
          clear hwx
          replace kk := kk.trans (k9.mono (by have := kk.size; omega))
          replace bMb := bMb.all k9
          replace s1b := (s1b.below k9).more k9.size
          replace s2b := (s2b.below k9).more k9.size
          replace t1 := (t1.below k9).more k9.size
          replace t2 := (t2.below k9).more k9.size
          clear k9
          refine (HG.out _ _ _ _ _ _ _ s1b s2b (by omega) (by omega)).mono ?_
          rintro e w10 ⟨rfl, hb⟩
          replace kk := kk.trans (hb.mono (by have := kk.size; omega))
          replace bMb := bMb.all hb
          replace bO := bO.all hb
          replace s1b := (s1b.below hb).more hb.size
          replace s2b := (s2b.below hb).more hb.size
          replace t1 := (t1.below hb).more hb.size
          replace t2 := (t2.below hb).more hb.size
          clear hb HG
          have x0 := bMb.cell 0
          have x1 := bMb.cell 1
          have x2 := bMb.cell 2
          have lM := bMb.lt
          go_wp2_with fail
          clear x0 x1 x2 lM
          refine (HN.out _ _ _ _ _ _ _ s1b s2b (by omega) (by omega)).mono ?_
          rintro e w11 ⟨rfl, hb⟩
          replace kk := kk.trans (hb.mono (by have := kk.size; omega))
          replace bMb := bMb.all hb
          replace bO := bO.all hb
          replace s1b := (s1b.below hb).more hb.size
          replace s2b := (s2b.below hb).more hb.size
          replace t1 := (t1.below hb).more hb.size
          replace t2 := (t2.below hb).more hb.size
          clear hb HN
          have x0 := bMb.cell 0
          have x1 := bMb.cell 1
          have x2 := bMb.cell 2
          have y0 := bO.cell 0
          have y1 := bO.cell 1
          have y2 := bO.cell 2
          have lM := bMb.lt
          have lO := bO.lt
          have hqq : (q != q) = false := by simp
          go_wp2_with fail
          clear x0 x1 x2 lM y0 y1 y2 lO
          refine (likeM_any _ _ _ _ _ _ _ _ _ _ _ _ _ _ _ _ _ _ _ _ t1 t2 s1b s2b (Nat.le_refl _) (by omega) (by omega)).mono ?_
          rintro e w12 ⟨rfl, hb⟩
          simp only [beq_self_eq_true, Bool.and_self]
          replace kk := kk.trans (hb.mono (by have := kk.size; omega))
          go_wp2_with fail
          go_meet
          exact kk
        · have hcz : (code == 0) = false := by rw [beq_eq_false_iff_ne]; exact h0
          go_wp2_with fail
          go_meet
          exact kk
      case rest =>
        clear kk s1b s2b bMb HF R1 R2 hs hi
        have kk := hcut
        have hsz := kk.size
        clear hcut
        go_wp2_with fail
        refine (drawMf_any _ A n c bs (hS.keep kk hsz) hn).mono ?_
        rintro e w2 ⟨v1, q, v2, v3, os, qs, ps, rfl, o1, o2, o3, hq, ⟨r1, r2, r3, l1, l2, l3⟩, hb2⟩
        obtain ⟨A1, c1, rfl, s1⟩ := o1.sl r1
        obtain ⟨A2, c2, rfl, s2⟩ := o2.sl r2
        obtain ⟨A3, c3, rfl, s3⟩ := o3.sl r3
        replace kk := kk.trans (hb2.mono hsz)
        obtain ⟨g1, g2, g3, g4⟩ := mf_rng (sq := qs) (pr := ps) (D := q) r1 l1
        have HI := hide (fun W A1 c1 A2 c2 A3 c3 (s1 : Sl W W.heap.size A1 os.length c1 os) (s2 : Sl W W.heap.size A2 qs.length c2 qs) (s3 : Sl W W.heap.size A3 ps.length c3 ps) => impl_Mf_any W A1 os.length c1 os q A2 qs.length c2 qs A3 ps.length c3 ps s1 s2 s3 (by omega) (by omega) (by omega))
        have HS := hide (fun W A1 c1 A2 c2 A3 c3 (s1 : Sl W W.heap.size A1 os.length c1 os) (s2 : Sl W W.heap.size A2 qs.length c2 qs) (s3 : Sl W W.heap.size A3 ps.length c3 ps) => spec_Mf_any W A1 os.length c1 os q A2 qs.length c2 qs A3 ps.length c3 ps s1 s2 s3 (by omega) (by omega) (by omega))
        have HM := hide (fun h : mfC os q qs ps = 0 => (mfC_isM h : isM os q (valsF os q qs ps) = true))
        have HM2 : Hid (mfC os q qs ps = 0 → isM (gF (mfC os q qs ps) os) (gFI (mfC os q qs ps) q) (gF (mfC os q qs ps) (valsF os q qs ps)) = true) := hide (fun h => by rw [h, gF_0, gF_0, gFI_0]; exact HM.out h)
        clear HM o1 o2 o3 hb2 r1 r2 r3
        obtain ⟨code, hcode⟩ : ∃ k, mfC os q qs ps = k := ⟨_, rfl⟩
        rw [hcode] at g1 g2 g3 g4 HI HS HM2
        clear hcode
        obtain ⟨X, hX⟩ : ∃ X, gF code os = X := ⟨_, rfl⟩
        obtain ⟨Z, hZ⟩ : ∃ Z, gFI code q = Z := ⟨_, rfl⟩
        obtain ⟨Y, hY⟩ : ∃ Y, gF code (valsF os q qs ps) = Y := ⟨_, rfl⟩
        rw [hX] at g1 g3
        rw [hY] at g2 g4
        rw [hX, hZ, hY] at HI HS HM2
        clear hX hZ hY
        have R1 := hide g1
        have R2 := hide g2
        clear g1 g2
        go_wp2_with fail
        refine (HI.out _ _ _ _ _ _ _ s1 s2 s3).mono ?_
        rintro e w3 ⟨v1, v2, rfl, ho1, ho2, -, hb⟩
        obtain ⟨C1, e1, rfl, t1⟩ := ho1.sl (Hid.out R1)
        obtain ⟨C2, e2, rfl, t2⟩ := ho2.sl (Hid.out R2)
        replace kk := kk.trans (hb.mono (by have := kk.size; omega))
        replace s1 := (s1.below hb).more hb.size
        replace s2 := (s2.below hb).more hb.size
        replace s3 := (s3.below hb).more hb.size
        clear hb ho1 ho2 HI
        go_wp2_with fail
        obtain ⟨w4, hwx⟩ : ∃ w', World.alloc w3 (.cells #[.slice C1 (List.length X) e1, .int .i64 Z, .slice C2 (List.length Y) e2] 28) = w' := ⟨_, rfl⟩
        have k4 : Below (World.heap w3).size w3 w4 := hwx ▸ (Below.refl _ _).alloc (Nat.le_refl _) _
        have bX : Blk w4 (World.heap w3).size 28 #[.slice C1 (List.length X) e1, .int .i64 Z, .slice C2 (List.length Y) e2] := hwx ▸ Blk.new _ _ _
        rw [hwx]
        clear hwx
        replace kk := kk.trans (k4.mono (by have := kk.size; omega))
        replace s1 := (s1.below k4).more k4.size
        replace s2 := (s2.below k4).more k4.size
        replace s3 := (s3.below k4).more k4.size
        replace t1 := (t1.below k4).more k4.size
        replace t2 := (t2.below k4).more k4.size
        clear k4
        refine (HS.out _ _ _ _ _ _ _ s1 s2 s3).mono ?_
        rintro e w5 ⟨v1, v2, rfl, ho1, ho2, -, hb⟩
        obtain ⟨F1, d1, rfl, u1'⟩ := ho1.sl (Hid.out R1)
        obtain ⟨F2, d2, rfl, u2'⟩ := ho2.sl (Hid.out R2)
        replace kk := kk.trans (hb.mono (by have := kk.size; omega))
        replace bX := bX.all hb
        replace t1 := (t1.below hb).more hb.size
        replace t2 := (t2.below hb).more hb.size
        clear hb ho1 ho2 HS s1 s2 s3
        have x0 := bX.cell 0
        have x1 := bX.cell 1
        have x2 := bX.cell 2
        have lM := bX.lt
        have hcc : (code == code) = true := by simp
        go_wp2_with fail
        clear x0 x1 x2 lM hcc
        obtain ⟨w6, hwx⟩ : ∃ w', World.alloc w5 (.cells #[.slice F1 (List.length X) d1, .int .i64 Z, .slice F2 (List.length Y) d2] 28) = w' := ⟨_, rfl⟩
        have k6 : Below (World.heap w5).size w5 w6 := hwx ▸ (Below.refl _ _).alloc (Nat.le_refl _) _
        have bY : Blk w6 (World.heap w5).size 28 #[.slice F1 (List.length X) d1, .int .i64 Z, .slice F2 (List.length Y) d2] := hwx ▸ Blk.new _ _ _
        rw [hwx]
        clear hwx
        replace kk := kk.trans (k6.mono (by have := kk.size; omega))
        replace bX := bX.all k6
        replace t1 := (t1.below k6).more k6.size
        replace t2 := (t2.below k6).more k6.size
        replace u1' := (u1'.below k6).more k6.size
        replace u2' := (u2'.below k6).more k6.size
        clear k6
        refine (likeM_any _ _ _ _ _ _ _ _ _ _ _ _ _ _ _ _ _ _ _ _ t1 t2 u1' u2' (Nat.le_refl _) (by omega) (by omega)).mono ?_
        rintro e w7 ⟨rfl, hb⟩
        simp only [beq_self_eq_true, Bool.and_self]
        replace kk := kk.trans (hb.mono (by have := kk.size; omega))
        replace bX := bX.all hb
        replace t1 := (t1.below hb).more hb.size
        replace t2 := (t2.below hb).more hb.size
        clear hb u1' u2' bY
        by_cases h0 : code = 0
        · subst h0
          have hm := HM2.out rfl
          have HM3 := hide hm
          clear hm HM2
          have x0 := bX.cell 0
          have x1 := bX.cell 1
          have x2 := bX.cell 2
          have lM := bX.lt
          go_wp2_with fail
          clear x0 x1 x2 lM
          refine (implIs_v true _ _ _ _ _ _ _ _ _ _ t1 t2 (by omega) (by omega) HM3.out).mono ?_
          rintro e w9 ⟨rfl, hb6⟩
          replace kk := kk.trans (hb6.mono (by have := kk.size; omega))
          go_wp2_with fail
          go_ret
          exact ⟨rfl, kk⟩
        · have hcz : (code != 0) = true := by simpa using h0
          go_wp2_with fail
          go_ret
          exact ⟨rfl, kk⟩
end Go.Proofs.Ytneflhachjlmkaa
