
/- The walks of eachIsometry and of the program's CountIsometries and IsometryOf. The laws of CountIsometries and IsometryOf. -/
import Derived.Test.YtonehmjoolflfaaGreatDoorIM9
import Derived.Laws.EntriesVeiled
namespace Go.Proofs.YtonehmjoolflfaaGreatDoor
open Go Go.RowKit Grp
set_option linter.unusedSimpArgs false
set_option linter.unusedVariables false
set_option maxRecDepth 100000
/-- What eachIsometry leaves. -/
def EaP (w : World) (B0 : Nat) (T : Two) (stop : Bool) (Acc : World → List (List Int) → Prop) (Fin : World → List Int → Prop) (acc : List (List Int)) (e : Ending) (W' : World) : Prop :=
  e = .returned (.tuple #[]) ∧ Below B0 w W' ∧ ((Acc W' (acc ++ T.all) ∧ (stop = true → T.all = [])) ∨ (stop = true ∧ ∃ x l, T.all = x :: l ∧ Fin W' x))
set_option maxHeartbeats 8000000 in
theorem eachIso_any (w : World) (B0 : Nat) (T : Two) (hM : IsM T.os T.D T.vs) (hN : IsM T.ps T.E T.us) (A : Option Addr) (n c : Nat) (B : Option Addr) (m k : Nat) (A2 : Option Addr) (n2 c2 : Nat) (B2 : Option Addr) (m2 k2 : Nat) (X fe : Nat) (stop : Bool)
    (h : Sl w B0 A n c T.os) (h' : Sl w B0 B m k T.vs) (g : Sl w B0 A2 n2 c2 T.ps) (g' : Sl w B0 B2 m2 k2 T.us) (hBX : B0 ≤ X) (hX : X < w.heap.size)
    (Acc : World → List (List Int) → Prop) (Fin : World → List Int → Prop) (acc : List (List Int)) (hA : Acc w acc)
    (hacc : ∀ W W' acc, Acc W acc → Wr W W' (fun b => w.heap.size ≤ b) → Acc W' acc)
    (hfe : ∀ args w, (callFunc fe args).run Tryz.prog w = .ok (.enter fe args) w)
    (hen : ∀ W pre acc A c, Sl W W.heap.size A n c pre → Acc W acc → Below B0 w W → Calls Tryz.prog fe #[.slice A n c, .pointer (some ⟨X, 0, none⟩)] W (fun e W' => e = .returned (.bool stop) ∧ (stop = false → Acc W' (acc ++ [pre])) ∧ (stop = true → Fin W' pre) ∧ Wr W W' (fun b => b = X))) :
    Calls Tryz.prog 24 #[.agg #[.slice A n c, .int .i64 T.D, .slice B m k], .agg #[.slice A2 n2 c2, .int .i64 T.E, .slice B2 m2 k2], .func (.func fe) #[] #[.pointer (some ⟨X, 0, none⟩)]] w (EaP w B0 T stop Acc Fin acc) := by
  have hn := h.len
  have hm := h'.len
  have hm2 := g'.len
  have hos4 := hM.ok.g.l4
  have hos1 := hM.ok.g.l1
  have hB0 : B0 ≤ w.heap.size := by omega
  obtain ⟨W1, hW1⟩ : ∃ W1, (((w.alloc (.cells #[.slice A n c, .int .i64 T.D, .slice B m k] 26)).alloc (.cells #[.slice A2 n2 c2, .int .i64 T.E, .slice B2 m2 k2] 26)).alloc (.cells #[.func (.func fe) #[] #[.pointer (some ⟨X, 0, none⟩)]] 49)).alloc (.cells #[] 2) = W1 := ⟨_, rfl⟩
  have hB1 : Below w.heap.size w W1 := by rw [← hW1]; exact (by repeat (first | assumption | exact Below.refl _ _ | apply below_drewN | apply Below.drew | apply Below.alloc | apply Below.setCell | omega | (focus (simp; done)) | (focus (simp; omega))))
  have hz1 : w.heap.size + 4 = W1.heap.size := by rw [← hW1]; simp
  have b01 : Blk W1 w.heap.size 26 #[.slice A n c, .int .i64 T.D, .slice B m k] := by rw [← hW1]; exact (((Blk.new _ _ _).alloc _).alloc _).alloc _
  have b11 : Blk W1 (w.heap.size + 1) 26 #[.slice A2 n2 c2, .int .i64 T.E, .slice B2 m2 k2] := by rw [← hW1]; exact ((Blk.new' _ _ _ _ (by simp)).alloc _).alloc _
  have b21 : Blk W1 (w.heap.size + 1 + 1) 49 #[.func (.func fe) #[] #[.pointer (some ⟨X, 0, none⟩)]] := by rw [← hW1]; exact (Blk.new' _ _ _ _ (by simp)).alloc _
  have o1 : Ow W1 w.heap.size (.slice (some ⟨w.heap.size + 1 + 1 + 1, 0, none⟩) 0 0) [] := by rw [← hW1]; exact Ow.made' (xs := []) _ _ (w.heap.size + 1 + 1 + 1) 0 (by simp) rfl (by omega) rfl (by unfold maxLen; omega)
  have hG := hide (generators_any W1 A n c T.os hM.ok.g ((h.below (hB1.mono hB0)).more (by omega)))
  have r0 := b01.cell 0
  have r1 := b01.cell 1
  have r2 := b01.cell 2
  go_enter Tryz.func24, Tryz.ntmps24
  go_wp2_with fail
  clear r0 r1 r2 hW1
  refine hG.out.mono ?_
  rintro e w5 ⟨vo, rfl, ho, hb5⟩
  obtain ⟨Ao, co, rfl⟩ := ho.val
  rw [genL_len, hn] at ho ⊢
  have hB5 := hB1.trans (hb5.mono (by omega))
  have b05 := b01.all hb5
  have b15 := b11.all hb5
  have b25 := b21.all hb5
  have o5 := o1.below hb5
  have hz5 := hb5.size
  have hol := ho.lt
  have hr5 := b05.lt
  clear hG b01 b11 b21 o1
  have r0 := b05.cell 0
  have r1 := b05.cell 1
  have r2 := b05.cell 2
  have s0 := b15.cell 0
  have s1 := b15.cell 1
  have s2 := b15.cell 2
  go_upto_region 6 with fail
  obtain ⟨W6, hW6⟩ : ∃ W6, ((((w5.alloc (.cells #[.slice (some ⟨w.heap.size + 1 + 1 + 1, 0, none⟩) 0 0] 24)).alloc (.cells #[.slice Ao n co] 24)).alloc (.cells #[.func (.func 60) #[] #[]] 81)).alloc (.cells #[(.func (.func 61) #[] #[.pointer (some ⟨w.heap.size, 0, none⟩), .pointer (some ⟨w.heap.size + 1, 0, none⟩), .pointer (some ⟨w5.heap.size, 0, none⟩), .pointer (some ⟨w5.heap.size + 1 + 1, 0, none⟩)] : Value)] 80)).alloc (.cells #[(.func (.func 64) #[] #[.pointer (some ⟨w5.heap.size, 0, none⟩), .pointer (some ⟨w5.heap.size + 1, 0, none⟩), .pointer (some ⟨w5.heap.size + 1 + 1 + 1, 0, none⟩), .pointer (some ⟨w.heap.size + 1 + 1, 0, none⟩), .pointer (some ⟨w.heap.size + 1, 0, none⟩), .pointer (some ⟨w.heap.size, 0, none⟩), .pointer (some ⟨w5.heap.size + 1 + 1, 0, none⟩), .pointer (some ⟨w5.heap.size + 1 + 1 + 1 + 1, 0, none⟩)] : Value)] 80) = W6 := ⟨_, rfl⟩
  have hB56 : Below w5.heap.size w5 W6 := by rw [← hW6]; exact (by repeat (first | assumption | exact Below.refl _ _ | apply below_drewN | apply Below.drew | apply Below.alloc | apply Below.setCell | omega | (focus (simp; done)) | (focus (simp; omega))))
  have hz6 : w5.heap.size + 5 = W6.heap.size := by rw [← hW6]; simp
  have b36 : Blk W6 w5.heap.size 24 #[.slice (some ⟨w.heap.size + 1 + 1 + 1, 0, none⟩) 0 0] := by rw [← hW6]; exact ((((Blk.new _ _ _).alloc _).alloc _).alloc _).alloc _
  have b46 : Blk W6 (w5.heap.size + 1) 24 #[.slice Ao n co] := by rw [← hW6]; exact (((Blk.new' _ _ _ _ (by simp)).alloc _).alloc _).alloc _
  have b56 : Blk W6 (w5.heap.size + 1 + 1) 81 #[.func (.func 60) #[] #[]] := by rw [← hW6]; exact ((Blk.new' _ _ _ _ (by simp)).alloc _).alloc _
  have b66 : Blk W6 (w5.heap.size + 1 + 1 + 1) 80 #[(.func (.func 61) #[] #[.pointer (some ⟨w.heap.size, 0, none⟩), .pointer (some ⟨w.heap.size + 1, 0, none⟩), .pointer (some ⟨w5.heap.size, 0, none⟩), .pointer (some ⟨w5.heap.size + 1 + 1, 0, none⟩)] : Value)] := by rw [← hW6]; exact (Blk.new' _ _ _ _ (by simp)).alloc _
  have b76 : Blk W6 (w5.heap.size + 1 + 1 + 1 + 1) 80 #[(.func (.func 64) #[] #[.pointer (some ⟨w5.heap.size, 0, none⟩), .pointer (some ⟨w5.heap.size + 1, 0, none⟩), .pointer (some ⟨w5.heap.size + 1 + 1 + 1, 0, none⟩), .pointer (some ⟨w.heap.size + 1 + 1, 0, none⟩), .pointer (some ⟨w.heap.size + 1, 0, none⟩), .pointer (some ⟨w.heap.size, 0, none⟩), .pointer (some ⟨w5.heap.size + 1 + 1, 0, none⟩), .pointer (some ⟨w5.heap.size + 1 + 1 + 1 + 1, 0, none⟩)] : Value)] := by rw [← hW6]; exact Blk.new' _ _ _ _ (by simp)
  rw [hW6]
  clear hW6 r0 r1 r2 s0 s1 s2
  have hB6 := hB5.trans (hB56.mono (by omega))
  have hA6 := hacc _ _ _ hA (Wr.of_below hB6)
  have b06 := b05.all hB56
  have b16 := b15.all hB56
  have b26 := b25.all hB56
  have o6 := o5.below hB56
  have ho6 := ho.below hB56
  have l0 := b06.lt
  have l1 := b16.lt
  have r0 := b06.cell 0
  have r1 := b06.cell 1
  have r2 := b06.cell 2
  have s0 := b16.cell 0
  have s1 := b16.cell 1
  have s2 := b16.cell 2
  have hSm := hide (fun (W2 : World) => size_any W2 (.slice A n c) (.int .i64 T.D) B m k)
  have hSn := hide (fun (W2 : World) => size_any W2 (.slice A2 n2 c2) (.int .i64 T.E) B2 m2 k2)
  clear b05 b15 b25 o5 ho hA
  by_cases he : T.vs.length = T.us.length
  · have hT : TwoOk T := ⟨hM, hN, he⟩
    have hmm : m = m2 := by omega
    subst hmm
    refine wp_region_be [0, 2, 1, 3, 4] 5 W6.heap.size W6 (by kernel_rfl) (by kernel_rfl) (by kernel_rfl) (fun _ _ _ _ _ h => h) (Below.refl _ _) (fun wd hBe => ?_)
    repeat (first | (apply ord_tk rfl (by rfl) (by rfl) (by rfl); (focus (intro wx hSw; have a0 := (hSw.cell (p := ⟨w.heap.size, 0, none⟩) l0).trans r0; have a1 := (hSw.cell (p := ⟨w.heap.size, 1, none⟩) l0).trans r1; have a2 := (hSw.cell (p := ⟨w.heap.size, 2, none⟩) l0).trans r2; have a3 := (hSw.cell (p := ⟨w.heap.size + 1, 0, none⟩) l1).trans s0; have a4 := (hSw.cell (p := ⟨w.heap.size + 1, 1, none⟩) l1).trans s1; have a5 := (hSw.cell (p := ⟨w.heap.size + 1, 2, none⟩) l1).trans s2; go_simp; (try with_reducible rfl))); (try simp only [Act.put, List.setIfInBounds_toArray, List.set_cons_zero, List.set_cons_succ])) | (apply ord_skip rfl (by rfl) (by rfl) (fun _ => hBe); (try simp only [Act.put, List.setIfInBounds_toArray, List.set_cons_zero, List.set_cons_succ])))
    refine ord_do rfl (by rfl) (by rfl) (fun K hK => ?_)
    go_simp
    refine (hSm.out _).mono ?_
    rintro e wd' ⟨rfl, hwd⟩
    replace hBe := hBe.trans (hwd.mono hBe.size)
    clear hwd
    refine hK.out _ _ (fun _ => hBe) ?_
    (try simp only [Act.put, List.setIfInBounds_toArray, List.set_cons_zero, List.set_cons_succ])
    clear hK K
    repeat (first | (apply ord_tk rfl (by rfl) (by rfl) (by rfl); (focus (intro wx hSw; have a0 := (hSw.cell (p := ⟨w.heap.size, 0, none⟩) l0).trans r0; have a1 := (hSw.cell (p := ⟨w.heap.size, 1, none⟩) l0).trans r1; have a2 := (hSw.cell (p := ⟨w.heap.size, 2, none⟩) l0).trans r2; have a3 := (hSw.cell (p := ⟨w.heap.size + 1, 0, none⟩) l1).trans s0; have a4 := (hSw.cell (p := ⟨w.heap.size + 1, 1, none⟩) l1).trans s1; have a5 := (hSw.cell (p := ⟨w.heap.size + 1, 2, none⟩) l1).trans s2; go_simp; (try with_reducible rfl))); (try simp only [Act.put, List.setIfInBounds_toArray, List.set_cons_zero, List.set_cons_succ])) | (apply ord_skip rfl (by rfl) (by rfl) (fun _ => hBe); (try simp only [Act.put, List.setIfInBounds_toArray, List.set_cons_zero, List.set_cons_succ])))
    refine ord_do rfl (by rfl) (by rfl) (fun K hK => ?_)
    go_simp
    refine (hSn.out _).mono ?_
    rintro e wd' ⟨rfl, hwd⟩
    replace hBe := hBe.trans (hwd.mono hBe.size)
    clear hwd
    refine hK.out _ _ (fun _ => hBe) ?_
    (try simp only [Act.put, List.setIfInBounds_toArray, List.set_cons_zero, List.set_cons_succ])
    clear hK K
    repeat (first | (apply ord_tk rfl (by rfl) (by rfl) (by rfl); (focus (intro wx hSw; have a0 := (hSw.cell (p := ⟨w.heap.size, 0, none⟩) l0).trans r0; have a1 := (hSw.cell (p := ⟨w.heap.size, 1, none⟩) l0).trans r1; have a2 := (hSw.cell (p := ⟨w.heap.size, 2, none⟩) l0).trans r2; have a3 := (hSw.cell (p := ⟨w.heap.size + 1, 0, none⟩) l1).trans s0; have a4 := (hSw.cell (p := ⟨w.heap.size + 1, 1, none⟩) l1).trans s1; have a5 := (hSw.cell (p := ⟨w.heap.size + 1, 2, none⟩) l1).trans s2; go_simp; (try with_reducible rfl))); (try simp only [Act.put, List.setIfInBounds_toArray, List.set_cons_zero, List.set_cons_succ])) | (apply ord_skip rfl (by rfl) (by rfl) (fun _ => hBe); (try simp only [Act.put, List.setIfInBounds_toArray, List.set_cons_zero, List.set_cons_succ])))
    refine ord_nil ?_
    obtain ⟨w7, hw7⟩ : ∃ w7, w7 = wd' := ⟨_, rfl⟩
    subst hw7
    have hA7 := hacc _ _ _ hA6 (Wr.of_below hBe)
    have hB7 := hB6.trans (hBe.mono (show w.heap.size ≤ W6.heap.size by omega))
    have hz7 := hBe.size
    let C : Cf := { T := T, w := w, B0 := B0, L := n, N := m, A := A, c := c, B := B, k := k, A2 := A2, n2 := n2, c2 := c2, B2 := B2, k2 := k2, Ao := Ao, co := co, a0 := w.heap.size, a1 := w.heap.size + 1, a2 := w.heap.size + 1 + 1, a3 := w5.heap.size, a4 := w5.heap.size + 1, a5 := w5.heap.size + 1 + 1, a6 := w5.heap.size + 1 + 1 + 1, a7 := w5.heap.size + 1 + 1 + 1 + 1, X := X, fe := fe, stop := stop }
    have okC : CfOk C := { hT := hT, hL := hn, hN := hm2, h := h, h' := h', g := g, g' := g', hB := hBX, hX := hX, w0 := (by show w.heap.size ≤ w.heap.size; omega), w1 := (by show w.heap.size ≤ w.heap.size + 1; omega), w2 := (by show w.heap.size ≤ w.heap.size + 1 + 1; omega), w3 := (by show w.heap.size ≤ w5.heap.size; omega), w4 := (by show w.heap.size ≤ w5.heap.size + 1; omega), w5 := (by show w.heap.size ≤ w5.heap.size + 1 + 1; omega), w6 := (by show w.heap.size ≤ w5.heap.size + 1 + 1 + 1; omega), w7 := (by show w.heap.size ≤ w5.heap.size + 1 + 1 + 1 + 1; omega), n0 := (by show w.heap.size ≠ w5.heap.size; omega), n1 := (by show w.heap.size + 1 ≠ w5.heap.size; omega), n2 := (by show w.heap.size + 1 + 1 ≠ w5.heap.size; omega), n4 := (by show w5.heap.size + 1 ≠ w5.heap.size; omega), n5 := (by show w5.heap.size + 1 + 1 ≠ w5.heap.size; omega), n6 := (by show w5.heap.size + 1 + 1 + 1 ≠ w5.heap.size; omega), n7 := (by show w5.heap.size + 1 + 1 + 1 + 1 ≠ w5.heap.size; omega) }
    have hap : Apart (.slice Ao n co) (.slice (some ⟨w.heap.size + 1 + 1 + 1, 0, none⟩) 0 0) := fun b hb e => by
      have h1 := hol b hb
      have h2 : w.heap.size + 1 + 1 + 1 = b := by simpa [Value.ownBlock] using e
      omega
    have hE7 : ExI C [] (.slice (some ⟨w.heap.size + 1 + 1 + 1, 0, none⟩) 0 0) w7 := { b0 := b06.all hBe, b1 := b16.all hBe, b2 := b26.all hBe, b3 := b36.all hBe, im := o6.below hBe, b4 := b46.all hBe, ow := (ho6.below hBe).less (by show w.heap.size ≤ W1.heap.size; omega), ap := hap, b5 := b56.all hBe, b6 := b66.all hBe, b7 := b76.all hBe, fr := hB7.mono hB0 }
    have c7 := (b76.all hBe).cell 0
    have hX9 := extend_any okC Acc Fin hacc hfe hen n [] _ w7 acc hE7 hA7 (by show 0 + n = n; omega) (by simp)
    have HX9 := hide hX9
    have hall := hide (show T.all = T.isos n [] by unfold Two.all; rw [if_pos he, hn])
    clear hX9 hE7 okC hen hA7 hA6 hSm hSn b36 b46 b56 b66 b76 b06 b16 b26 o6 ho6 r0 r1 r2 s0 s1 s2
    go_wp2_with fail
    clear c7
    refine HX9.out.mono ?_
    rintro e w9 hP
    have hPo : EaP w B0 T stop Acc Fin acc (.returned (.tuple #[])) w9 := by
      rcases hP with ⟨_, ⟨v, hE⟩, hA9, hs9⟩ | ⟨hst, x, l, hx, _, hF, hfr⟩
      · exact ⟨rfl, hE.fr, .inl ⟨by rw [hall.out]; exact hA9, fun hh => by rw [hall.out]; exact hs9 hh⟩⟩
      · exact ⟨rfl, hfr, .inr ⟨hst, x, l, by rw [hall.out]; exact hx, hF⟩⟩
    have HPo := hide hPo
    have hre : ∃ b, e = .returned (.bool b) := by
      rcases hP with ⟨h1, _⟩ | ⟨_, _, _, _, h1, _⟩
      · exact ⟨_, h1⟩
      · exact ⟨_, h1⟩
    obtain ⟨bb, rfl⟩ := hre
    clear hP hPo HX9
    go_wp2_with fail
    refine bodyPost_ret (v := .tuple #[]) (by simp [results, Tryz.results24, go_sem]) rfl ?_
    exact HPo.out
  · have hne : ((m : Int) == (m2 : Int)) = false := by rw [beq_eq_false_iff_ne]; omega
    have hall := hide (show T.all = [] by unfold Two.all; rw [if_neg he])
    refine wp_region_be [0, 2, 1, 3, 4] 5 W6.heap.size W6 (by kernel_rfl) (by kernel_rfl) (by kernel_rfl) (fun _ _ _ _ _ h => h) (Below.refl _ _) (fun wd hBe => ?_)
    repeat (first | (apply ord_tk rfl (by rfl) (by rfl) (by rfl); (focus (intro wx hSw; have a0 := (hSw.cell (p := ⟨w.heap.size, 0, none⟩) l0).trans r0; have a1 := (hSw.cell (p := ⟨w.heap.size, 1, none⟩) l0).trans r1; have a2 := (hSw.cell (p := ⟨w.heap.size, 2, none⟩) l0).trans r2; have a3 := (hSw.cell (p := ⟨w.heap.size + 1, 0, none⟩) l1).trans s0; have a4 := (hSw.cell (p := ⟨w.heap.size + 1, 1, none⟩) l1).trans s1; have a5 := (hSw.cell (p := ⟨w.heap.size + 1, 2, none⟩) l1).trans s2; go_simp; (try with_reducible rfl))); (try simp only [Act.put, List.setIfInBounds_toArray, List.set_cons_zero, List.set_cons_succ])) | (apply ord_skip rfl (by rfl) (by rfl) (fun _ => hBe); (try simp only [Act.put, List.setIfInBounds_toArray, List.set_cons_zero, List.set_cons_succ])))
    refine ord_do rfl (by rfl) (by rfl) (fun K hK => ?_)
    go_simp
    refine (hSm.out _).mono ?_
    rintro e wd' ⟨rfl, hwd⟩
    replace hBe := hBe.trans (hwd.mono hBe.size)
    clear hwd
    refine hK.out _ _ (fun _ => hBe) ?_
    (try simp only [Act.put, List.setIfInBounds_toArray, List.set_cons_zero, List.set_cons_succ])
    clear hK K
    repeat (first | (apply ord_tk rfl (by rfl) (by rfl) (by rfl); (focus (intro wx hSw; have a0 := (hSw.cell (p := ⟨w.heap.size, 0, none⟩) l0).trans r0; have a1 := (hSw.cell (p := ⟨w.heap.size, 1, none⟩) l0).trans r1; have a2 := (hSw.cell (p := ⟨w.heap.size, 2, none⟩) l0).trans r2; have a3 := (hSw.cell (p := ⟨w.heap.size + 1, 0, none⟩) l1).trans s0; have a4 := (hSw.cell (p := ⟨w.heap.size + 1, 1, none⟩) l1).trans s1; have a5 := (hSw.cell (p := ⟨w.heap.size + 1, 2, none⟩) l1).trans s2; go_simp; (try with_reducible rfl))); (try simp only [Act.put, List.setIfInBounds_toArray, List.set_cons_zero, List.set_cons_succ])) | (apply ord_skip rfl (by rfl) (by rfl) (fun _ => hBe); (try simp only [Act.put, List.setIfInBounds_toArray, List.set_cons_zero, List.set_cons_succ])))
    refine ord_do rfl (by rfl) (by rfl) (fun K hK => ?_)
    go_simp
    refine (hSn.out _).mono ?_
    rintro e wd' ⟨rfl, hwd⟩
    replace hBe := hBe.trans (hwd.mono hBe.size)
    clear hwd
    refine hK.out _ _ (fun _ => hBe) ?_
    (try simp only [Act.put, List.setIfInBounds_toArray, List.set_cons_zero, List.set_cons_succ])
    clear hK K
    repeat (first | (apply ord_tk rfl (by rfl) (by rfl) (by rfl); (focus (intro wx hSw; have a0 := (hSw.cell (p := ⟨w.heap.size, 0, none⟩) l0).trans r0; have a1 := (hSw.cell (p := ⟨w.heap.size, 1, none⟩) l0).trans r1; have a2 := (hSw.cell (p := ⟨w.heap.size, 2, none⟩) l0).trans r2; have a3 := (hSw.cell (p := ⟨w.heap.size + 1, 0, none⟩) l1).trans s0; have a4 := (hSw.cell (p := ⟨w.heap.size + 1, 1, none⟩) l1).trans s1; have a5 := (hSw.cell (p := ⟨w.heap.size + 1, 2, none⟩) l1).trans s2; go_simp; (try with_reducible rfl))); (try simp only [Act.put, List.setIfInBounds_toArray, List.set_cons_zero, List.set_cons_succ])) | (apply ord_skip rfl (by rfl) (by rfl) (fun _ => hBe); (try simp only [Act.put, List.setIfInBounds_toArray, List.set_cons_zero, List.set_cons_succ])))
    refine ord_nil ?_
    have hPo : EaP w B0 T stop Acc Fin acc (.returned (.tuple #[])) wd' := ⟨rfl, (hB6.trans (hBe.mono (show w.heap.size ≤ W6.heap.size by omega))).mono hB0, .inl ⟨by rw [hall.out, List.append_nil]; exact hacc _ _ _ hA6 (Wr.of_below hBe), fun _ => hall.out⟩⟩
    have HPo := hide hPo
    clear hPo
    go_wp2_with fail
    refine bodyPost_ret (v := .tuple #[]) (by simp [results, Tryz.results24, go_sem]) rfl ?_
    exact HPo.out
/-- A count that wraps. -/
def cntW : Nat → Int
  | 0 => 0
  | k + 1 => IntKind.i64.wrap (cntW k + 1)
theorem cntW_small : ∀ k : Nat, k ≤ 1000000 → cntW k = k := by
  intro k
  induction k with
  | zero => intro _; rfl
  | succ k ih =>
    intro h
    have e : cntW (k + 1) = IntKind.i64.wrap (cntW k + 1) := rfl
    rw [e, ih (by omega), wrap_in (by omega) (by omega)]
    omega
def AccC (X : Nat) (W : World) (acc : List (List Int)) : Prop := Blk W X 2 #[.int .i64 (cntW acc.length)]
theorem enC (W : World) (X : Nat) (A : Option Addr) (n c : Nat) (pre : List Int) (acc : List (List Int)) (hA : AccC X W acc) :
    Calls Tryz.prog 29 #[.slice A n c, .pointer (some ⟨X, 0, none⟩)] W (fun e W' => e = .returned (.bool false) ∧ (false = false → AccC X W' (acc ++ [pre])) ∧ (false = true → False) ∧ Wr W W' (fun b => b = X)) := by
  have c0 := Blk.cell hA 0
  have f0 := Blk.frozen hA 0
  have hS := hide (show AccC X (W.setCell ⟨X, 0, none⟩ (.int .i64 (cntW (acc.length + 1)))) (acc ++ [pre]) by
    unfold AccC; rw [List.length_append, List.length_singleton]; exact Blk.store hA 0 _)
  have hW : Wr W (W.setCell ⟨X, 0, none⟩ (.int .i64 (cntW (acc.length + 1)))) (fun b => b = X) :=
    ⟨rfl, rfl, rfl, by simp [World.setCell], fun b hb hn => Below.heap_setCell W ⟨X, 0, none⟩ _ b (fun e => hn e)⟩
  have HE := hide (show cntW (acc.length + 1) = IntKind.i64.wrap (cntW acc.length + 1) from rfl)
  obtain ⟨z, hz⟩ : ∃ z, cntW acc.length = z := ⟨_, rfl⟩
  obtain ⟨z1, hz1⟩ : ∃ z, cntW (acc.length + 1) = z := ⟨_, rfl⟩
  rw [hz] at c0 HE
  rw [hz1] at HE hS hW
  have h1 := HE.out.symm
  clear hA hz hz1
  go_enter Tryz.func29, Tryz.ntmps29
  go_wp2_with fail
  go_ret
  exact ⟨rfl, fun _ => hS.out, (fun h => by cases h), hW⟩
def AccF (X : Nat) (W : World) (acc : List (List Int)) : Prop := acc = [] ∧ Blk W X 24 #[.slice none 0 0]
def FinF (X : Nat) (W : World) (x : List Int) : Prop := ∃ A c, Blk W X 24 #[.slice A x.length c] ∧ E1 W (.slice A x.length c) x (fun b => X < b ∧ b < W.heap.size)
set_option maxHeartbeats 2000000 in
theorem enF (W : World) (X : Nat) (A : Option Addr) (n c : Nat) (pre : List Int) (acc : List (List Int)) (h : Sl W W.heap.size A n c pre) (hn : n ≤ 1073741824) (hA : AccF X W acc) :
    Calls Tryz.prog 25 #[.slice A n c, .pointer (some ⟨X, 0, none⟩)] W (fun e W' => e = .returned (.bool true) ∧ (true = false → AccF X W' (acc ++ [pre])) ∧ (true = true → FinF X W' pre) ∧ Wr W W' (fun b => b = X)) := by
  have hb := hA.2
  have hlt := hb.lt
  have hC := hide (clone_any W W.heap.size A n c pre h (Nat.le_refl _) hn)
  have hr := h.rng
  go_enter Tryz.func25, Tryz.ntmps25
  go_wp2_with fail
  refine hC.out.mono ?_
  rintro e w2 ⟨v, rfl, hO, hb2⟩
  obtain ⟨Av, cv, rfl⟩ := hO.val
  have hb2' := hb.all hb2
  have c0 := hb2'.cell 0
  have f0 := hb2'.frozen 0
  obtain ⟨W3, hW3⟩ : ∃ W3, w2.setCell ⟨X, 0, none⟩ (.slice Av pre.length cv) = W3 := ⟨_, rfl⟩
  have hzz : W3.heap.size = w2.heap.size := by rw [← hW3]; simp [World.setCell]
  have hF := hide (show FinF X W3 pre by
    have e1 : E1 w2 (.slice Av pre.length cv) pre (fun b => X < b ∧ b < w2.heap.size) := E1.mono (E1.of_ow6 hO hr) (fun b hb => ⟨by omega, hb.2⟩) (fun b hb => hb.2)
    have e2 : E1 W3 (.slice Av pre.length cv) pre (fun b => X < b ∧ b < w2.heap.size) := kp1 _ _ _ _ _ e1 (fun b hb => by rw [← hW3]; exact Below.heap_setCell w2 ⟨X, 0, none⟩ _ b (fun e => by have e2 : b = X := e; omega)) (by rw [hzz]; exact Nat.le_refl _)
    have b3 : Blk W3 X 24 #[.slice Av pre.length cv] := by rw [← hW3]; exact hb2'.store 0 _
    exact ⟨Av, cv, b3, E1.mono e2 (fun b hb => ⟨hb.1, by rw [hzz]; exact hb.2⟩) (fun b hb => hb.2)⟩)
  have hWr : Wr W W3 (fun b => b = X) := by
    have h1 : Wr W w2 (fun b => b = X) := Wr.of_below hb2
    rw [← hW3]
    exact ⟨h1.os, h1.tape, h1.output, by simp [World.setCell]; exact h1.size, fun b hb hn => (Below.heap_setCell w2 ⟨X, 0, none⟩ _ b (fun e => hn e)).trans (h1.block b hb hn)⟩
  clear hA hb hC hO hzz
  go_wp2_with fail
  go_ret
  exact ⟨rfl, (fun h => by cases h), fun _ => hF.out, hWr⟩
set_option maxHeartbeats 4000000 in
theorem implCI_T (w : World) (T : Two) (C K : Int) (A : Option Addr) (n c : Nat) (B : Option Addr) (m k : Nat) (A2 : Option Addr) (n2 c2 : Nat) (B2 : Option Addr) (m2 k2 : Nat)
    (h : Sl w w.heap.size A n c T.os) (h' : Sl w w.heap.size B m k T.vs) (g : Sl w w.heap.size A2 n2 c2 T.ps) (g' : Sl w w.heap.size B2 m2 k2 T.us) (hn : n ≤ 1073741824) (hm2 : m ≤ 1073741824) (hn2 : n2 ≤ 1073741824) (hk2 : m2 ≤ 1073741824)
    (no1 : isM T.os T.D T.vs = false → C = 0 ∧ K = 1) (no2 : isM T.ps T.E T.us = false → C = 0 ∧ K = 1) (yes : isM T.os T.D T.vs = true → isM T.ps T.E T.us = true → C = (T.all.length : Nat) ∧ K = 0) :
    Calls Tryz.prog 8 #[.agg #[.slice A n c, .int .i64 T.D, .slice B m k], .agg #[.slice A2 n2 c2, .int .i64 T.E, .slice B2 m2 k2]] w (Re w (.tuple #[.int .i64 C, .int .i64 K])) := by
  obtain ⟨W, hW⟩ : ∃ W, (w.alloc (.cells #[.slice A n c, .int .i64 T.D, .slice B m k] 26)).alloc (.cells #[.slice A2 n2 c2, .int .i64 T.E, .slice B2 m2 k2] 26) = W := ⟨_, rfl⟩
  have hB1 : Below w.heap.size w W := by rw [← hW]; exact (by repeat (first | assumption | exact Below.refl _ _ | apply below_drewN | apply Below.drew | apply Below.alloc | apply Below.setCell | omega | (focus (simp; done)) | (focus (simp; omega))))
  have bm1 : Blk W w.heap.size 26 #[.slice A n c, .int .i64 T.D, .slice B m k] := by rw [← hW]; exact (Blk.new _ _ _).alloc _
  have bn1 : Blk W (w.heap.size + 1) 26 #[.slice A2 n2 c2, .int .i64 T.E, .slice B2 m2 k2] := by rw [← hW]; exact Blk.new' _ _ _ _ (by simp)
  have hs1 := hB1.size
  have r0 := bm1.cell 0
  have r1 := bm1.cell 1
  have r2 := bm1.cell 2
  have s0 := bn1.cell 0
  have s1 := bn1.cell 1
  have s2 := bn1.cell 2
  replace no1 := fun hm (w' : World) (hb : Below w.heap.size w w') => (show Re w (.tuple #[.int .i64 C, .int .i64 K]) (.returned (.tuple #[.int .i64 0, .int .i64 1])) w' from ⟨by rw [(no1 hm).1, (no1 hm).2], hb⟩)
  replace no2 := fun hm (w' : World) (hb : Below w.heap.size w w') => (show Re w (.tuple #[.int .i64 C, .int .i64 K]) (.returned (.tuple #[.int .i64 0, .int .i64 1])) w' from ⟨by rw [(no2 hm).1, (no2 hm).2], hb⟩)
  cases hm : isM T.os T.D T.vs with
  | false =>
    have hI1 := hide (implIs_v false W A n c T.os T.D B m k T.vs ((h.below hB1).more hs1) ((h'.below hB1).more hs1) hn hm2 hm)
    go_enter Tryz.func8, Tryz.ntmps8
    go_wp2_with fail
    clear r0 r1 r2 s0 s1 s2
    refine hI1.out.mono ?_
    rintro e w2 ⟨rfl, hb2⟩
    go_wp2_with fail
    refine bodyPost_ret (v := .tuple #[.int .i64 0, .int .i64 1]) (by simp [results, Tryz.results8, go_sem]) rfl ?_
    exact no1 hm _ (hB1.trans (hb2.mono hs1))
  | true =>
    have hI1 := hide (implIs_v true W A n c T.os T.D B m k T.vs ((h.below hB1).more hs1) ((h'.below hB1).more hs1) hn hm2 hm)
    cases hq : isM T.ps T.E T.us with
    | false =>
      have hI2 := hide (fun (W2 : World) (hb : Below w.heap.size w W2) => implIs_v false W2 A2 n2 c2 T.ps T.E B2 m2 k2 T.us ((g.below hb).more hb.size) ((g'.below hb).more hb.size) hn2 hk2 hq)
      go_enter Tryz.func8, Tryz.ntmps8
      go_wp2_with fail
      clear r0 r1 r2 s0 s1 s2
      refine hI1.out.mono ?_
      rintro e w2 ⟨rfl, hb2⟩
      have hB2 := hB1.trans (hb2.mono hs1)
      have bn2 := bn1.all hb2
      have s0 := bn2.cell 0
      have s1 := bn2.cell 1
      have s2 := bn2.cell 2
      go_wp2_with fail
      refine (hI2.out _ hB2).mono ?_
      rintro e w3 ⟨rfl, hb3⟩
      go_wp2_with fail
      refine bodyPost_ret (v := .tuple #[.int .i64 0, .int .i64 1]) (by simp [results, Tryz.results8, go_sem]) rfl ?_
      exact no2 hq _ (hB2.trans (hb3.mono hB2.size))
    | true =>
      have hI2 := hide (fun (W2 : World) (hb : Below w.heap.size w W2) => implIs_v true W2 A2 n2 c2 T.ps T.E B2 m2 k2 T.us ((g.below hb).more hb.size) ((g'.below hb).more hb.size) hn2 hk2 hq)
      go_enter Tryz.func8, Tryz.ntmps8
      go_wp2_with fail
      clear r0 r1 r2 s0 s1 s2
      refine hI1.out.mono ?_
      rintro e w2 ⟨rfl, hb2⟩
      have hB2 := hB1.trans (hb2.mono hs1)
      have bm2 := bm1.all hb2
      have bn2 := bn1.all hb2
      have r0 := bm2.cell 0
      have r1 := bm2.cell 1
      have r2 := bm2.cell 2
      have s0 := bn2.cell 0
      have s1 := bn2.cell 1
      have s2 := bn2.cell 2
      go_wp2_with fail
      clear r0 r1 r2 s0 s1 s2
      refine (hI2.out _ hB2).mono ?_
      rintro e w3 ⟨rfl, hb3⟩
      have hB3 := hB2.trans (hb3.mono hB2.size)
      have bm3 := bm2.all hb3
      have bn3 := bn2.all hb3
      have r0 := bm3.cell 0
      have r1 := bm3.cell 1
      have r2 := bm3.cell 2
      have s0 := bn3.cell 0
      have s1 := bn3.cell 1
      have s2 := bn3.cell 2
      clear hI1 hI2 bm1 bm2 bn1 bn2
      have hM := isM_iff.1 hm
      have hN := isM_iff.1 hq
      have hle := T.all_le hM hN
      obtain ⟨e1, e2⟩ := yes hm hq
      have HE1 := hide (show C = cntW T.all.length by rw [e1, cntW_small _ (by omega)])
      have HE2 := hide e2
      obtain ⟨X, hX⟩ : ∃ X, w3.heap.size = X := ⟨_, rfl⟩
      obtain ⟨w4, hw4⟩ : ∃ w4, w3.alloc (.cells #[.int .i64 0] 2) = w4 := ⟨_, rfl⟩
      have hB4 : Below w.heap.size w w4 := by rw [← hw4]; exact hB3.alloc hB3.size _
      have bX : Blk w4 X 2 #[.int .i64 0] := by rw [← hw4]; exact Blk.new' _ _ _ _ hX
      have bm4 : Blk w4 w.heap.size 26 #[.slice A n c, .int .i64 T.D, .slice B m k] := by rw [← hw4]; exact bm3.alloc _
      have bn4 : Blk w4 (w.heap.size + 1) 26 #[.slice A2 n2 c2, .int .i64 T.E, .slice B2 m2 k2] := by rw [← hw4]; exact bn3.alloc _
      have hXw : w.heap.size ≤ X := by rw [← hX]; exact hB3.size
      have hXl := bX.lt
      have hnn := h.len
      have hEa := hide (eachIso_any w4 w.heap.size T hM hN A n c B m k A2 n2 c2 B2 m2 k2 X 29 false (h.below hB4) (h'.below hB4) (g.below hB4) (g'.below hB4) hXw hXl (AccC X) (fun _ _ => False) [] bX (fun W W' acc hA hw => hw.blk hA (by omega)) (enters_of Tryz.func29 (by kernel_rfl) rfl) (fun W pre acc A9 c9 _ hA _ => enC W X A9 n c9 pre acc hA))
      have HX := hide hX
      have HW4 := hide hw4
      have l0 := bm3.lt
      have l1 := bn3.lt
      clear e1 e2 yes no1 no2 bm3 bn3 bm4 bn4 bX hX hw4
      go_wp2_with fail
      rw [HW4.out, HX.out]
      refine hEa.out.mono ?_
      rintro e w9 ⟨rfl, hB9, hP⟩
      have hB9' := hB4.trans hB9
      rcases hP with ⟨hA9, _⟩ | ⟨hst, _⟩
      · have cX := Blk.cell hA9 0
        rw [List.nil_append] at cX
        obtain ⟨z, hz⟩ : ∃ z, cntW T.all.length = z := ⟨_, rfl⟩
        rw [hz] at cX HE1
        clear hA9 hz r0 r1 r2 s0 s1 s2
        go_wp2_with fail
        refine bodyPost_ret (v := .tuple #[.int .i64 z, .int .i64 0]) (by simp [results, Tryz.results8, go_sem]) rfl ?_
        exact ⟨by rw [HE1.out, HE2.out], hB9'⟩
      · cases hst
set_option maxHeartbeats 4000000 in
theorem implIO_T (w : World) (T : Two) (L : List Int) (K : Int) (A : Option Addr) (n c : Nat) (B : Option Addr) (m k : Nat) (A2 : Option Addr) (n2 c2 : Nat) (B2 : Option Addr) (m2 k2 : Nat)
    (h : Sl w w.heap.size A n c T.os) (h' : Sl w w.heap.size B m k T.vs) (g : Sl w w.heap.size A2 n2 c2 T.ps) (g' : Sl w w.heap.size B2 m2 k2 T.us) (hn : n ≤ 1073741824) (hm2 : m ≤ 1073741824) (hn2 : n2 ≤ 1073741824) (hk2 : m2 ≤ 1073741824)
    (no1 : isM T.os T.D T.vs = false → L = [] ∧ K = 1) (no2 : isM T.ps T.E T.us = false → L = [] ∧ K = 1) (yes : isM T.os T.D T.vs = true → isM T.ps T.E T.us = true → (T.all = [] → L = [] ∧ K = 4) ∧ (∀ x r, T.all = x :: r → L = x ∧ K = 0)) (hlen : ∀ x r, isM T.os T.D T.vs = true → T.all = x :: r → x ≠ []) :
    Calls Tryz.prog 6 #[.agg #[.slice A n c, .int .i64 T.D, .slice B m k], .agg #[.slice A2 n2 c2, .int .i64 T.E, .slice B2 m2 k2]] w (MkEC ints_E w L K) := by
  obtain ⟨W, hW⟩ : ∃ W, (w.alloc (.cells #[.slice A n c, .int .i64 T.D, .slice B m k] 26)).alloc (.cells #[.slice A2 n2 c2, .int .i64 T.E, .slice B2 m2 k2] 26) = W := ⟨_, rfl⟩
  have hB1 : Below w.heap.size w W := by rw [← hW]; exact (by repeat (first | assumption | exact Below.refl _ _ | apply below_drewN | apply Below.drew | apply Below.alloc | apply Below.setCell | omega | (focus (simp; done)) | (focus (simp; omega))))
  have bm1 : Blk W w.heap.size 26 #[.slice A n c, .int .i64 T.D, .slice B m k] := by rw [← hW]; exact (Blk.new _ _ _).alloc _
  have bn1 : Blk W (w.heap.size + 1) 26 #[.slice A2 n2 c2, .int .i64 T.E, .slice B2 m2 k2] := by rw [← hW]; exact Blk.new' _ _ _ _ (by simp)
  have hs1 := hB1.size
  have r0 := bm1.cell 0
  have r1 := bm1.cell 1
  have r2 := bm1.cell 2
  have s0 := bn1.cell 0
  have s1 := bn1.cell 1
  have s2 := bn1.cell 2
  have hnil : ∀ (w' : World), E1 w' (.slice none 0 0) [] (fun b => w.heap.size ≤ b ∧ b < w'.heap.size) := fun w' => ⟨Ow.nil _ _, by simp, fun b hb => by simp [Value.ownBlock] at hb, fun b hb => hb.2⟩
  replace no1 := fun hm (w' : World) (hb : Below w.heap.size w w') => (show MkEC ints_E w L K (.returned (.tuple #[.slice none 0 0, .int .i64 1])) w' from ⟨_, by rw [(no1 hm).2], by rw [(no1 hm).1]; exact hnil w', hb⟩)
  replace no2 := fun hm (w' : World) (hb : Below w.heap.size w w') => (show MkEC ints_E w L K (.returned (.tuple #[.slice none 0 0, .int .i64 1])) w' from ⟨_, by rw [(no2 hm).2], by rw [(no2 hm).1]; exact hnil w', hb⟩)
  cases hm : isM T.os T.D T.vs with
  | false =>
    have hI1 := hide (implIs_v false W A n c T.os T.D B m k T.vs ((h.below hB1).more hs1) ((h'.below hB1).more hs1) hn hm2 hm)
    go_enter Tryz.func6, Tryz.ntmps6
    go_wp2_with fail
    clear r0 r1 r2 s0 s1 s2
    refine hI1.out.mono ?_
    rintro e w2 ⟨rfl, hb2⟩
    go_wp2_with fail
    refine bodyPost_ret (v := .tuple #[.slice none 0 0, .int .i64 1]) (by simp [results, Tryz.results6, go_sem]) rfl ?_
    exact no1 hm _ (hB1.trans (hb2.mono hs1))
  | true =>
    have hI1 := hide (implIs_v true W A n c T.os T.D B m k T.vs ((h.below hB1).more hs1) ((h'.below hB1).more hs1) hn hm2 hm)
    cases hq : isM T.ps T.E T.us with
    | false =>
      have hI2 := hide (fun (W2 : World) (hb : Below w.heap.size w W2) => implIs_v false W2 A2 n2 c2 T.ps T.E B2 m2 k2 T.us ((g.below hb).more hb.size) ((g'.below hb).more hb.size) hn2 hk2 hq)
      go_enter Tryz.func6, Tryz.ntmps6
      go_wp2_with fail
      clear r0 r1 r2 s0 s1 s2
      refine hI1.out.mono ?_
      rintro e w2 ⟨rfl, hb2⟩
      have hB2 := hB1.trans (hb2.mono hs1)
      have bn2 := bn1.all hb2
      have s0 := bn2.cell 0
      have s1 := bn2.cell 1
      have s2 := bn2.cell 2
      go_wp2_with fail
      refine (hI2.out _ hB2).mono ?_
      rintro e w3 ⟨rfl, hb3⟩
      go_wp2_with fail
      refine bodyPost_ret (v := .tuple #[.slice none 0 0, .int .i64 1]) (by simp [results, Tryz.results6, go_sem]) rfl ?_
      exact no2 hq _ (hB2.trans (hb3.mono hB2.size))
    | true =>
      have hI2 := hide (fun (W2 : World) (hb : Below w.heap.size w W2) => implIs_v true W2 A2 n2 c2 T.ps T.E B2 m2 k2 T.us ((g.below hb).more hb.size) ((g'.below hb).more hb.size) hn2 hk2 hq)
      go_enter Tryz.func6, Tryz.ntmps6
      go_wp2_with fail
      clear r0 r1 r2 s0 s1 s2
      refine hI1.out.mono ?_
      rintro e w2 ⟨rfl, hb2⟩
      have hB2 := hB1.trans (hb2.mono hs1)
      have bm2 := bm1.all hb2
      have bn2 := bn1.all hb2
      have r0 := bm2.cell 0
      have r1 := bm2.cell 1
      have r2 := bm2.cell 2
      have s0 := bn2.cell 0
      have s1 := bn2.cell 1
      have s2 := bn2.cell 2
      go_wp2_with fail
      clear r0 r1 r2 s0 s1 s2
      refine (hI2.out _ hB2).mono ?_
      rintro e w3 ⟨rfl, hb3⟩
      have hB3 := hB2.trans (hb3.mono hB2.size)
      have bm3 := bm2.all hb3
      have bn3 := bn2.all hb3
      have r0 := bm3.cell 0
      have r1 := bm3.cell 1
      have r2 := bm3.cell 2
      have s0 := bn3.cell 0
      have s1 := bn3.cell 1
      have s2 := bn3.cell 2
      clear hI1 hI2 bm1 bm2 bn1 bn2
      have hM := isM_iff.1 hm
      have hN := isM_iff.1 hq
      obtain ⟨e1, e2⟩ := yes hm hq
      have HE1 := hide e1
      have HE2 := hide e2
      have HLN := hide (fun x r hh => hlen x r hm hh)
      obtain ⟨X, hX⟩ : ∃ X, w3.heap.size = X := ⟨_, rfl⟩
      obtain ⟨w4, hw4⟩ : ∃ w4, w3.alloc (.cells #[.slice none 0 0] 24) = w4 := ⟨_, rfl⟩
      have hB4 : Below w.heap.size w w4 := by rw [← hw4]; exact hB3.alloc hB3.size _
      have bX : Blk w4 X 24 #[.slice none 0 0] := by rw [← hw4]; exact Blk.new' _ _ _ _ hX
      have hXw : w.heap.size ≤ X := by rw [← hX]; exact hB3.size
      have hXl := bX.lt
      have hEa := hide (eachIso_any w4 w.heap.size T hM hN A n c B m k A2 n2 c2 B2 m2 k2 X 25 true (h.below hB4) (h'.below hB4) (g.below hB4) (g'.below hB4) hXw hXl (AccF X) (FinF X) [] ⟨rfl, bX⟩ (fun W W' acc hA hw => ⟨hA.1, hw.blk hA.2 (by omega)⟩) (enters_of Tryz.func25 (by kernel_rfl) rfl) (fun W pre acc A9 c9 hs hA _ => enF W X A9 n c9 pre acc hs hn hA))
      have HX := hide hX
      have HW4 := hide hw4
      have l0 := bm3.lt
      have l1 := bn3.lt
      clear e1 e2 yes no1 no2 bm3 bn3 bX hX hw4
      go_wp2_with fail
      rw [HW4.out, HX.out]
      refine hEa.out.mono ?_
      rintro e w9 ⟨rfl, hB9, hP⟩
      have hB9' := hB4.trans hB9
      rcases hP with ⟨hA9, hs9⟩ | ⟨_, x, r, hx, Af, cf, bF, hF⟩
      · have hal := hs9 rfl
        have cX := Blk.cell hA9.2 0
        have HE := hide (HE1.out hal)
        have hq9 := fun W => Lib.run_eql_slice_nil (P := Tryz.prog) W 24 _ none 0 0 0 0 Tryz.underlying24
        clear hA9 r0 r1 r2 s0 s1 s2
        go_wp2_with fail
        refine bodyPost_ret (v := .tuple #[.slice none 0 0, .int .i64 4]) (by simp [results, Tryz.results6, go_sem]) rfl ?_
        exact ⟨_, by rw [HE.out.2], by rw [HE.out.1]; exact hnil w9, hB9'⟩
      · have HE := hide (HE2.out x r hx)
        have hne := HLN.out x r hx
        rcases hF.own.form with ⟨h1, h2⟩ | ⟨gf, cap, h1, _⟩
        · exact absurd h2 hne
        · injection h1 with h1 _ h3
          subst h1
          subst h3
          have cX := bF.cell 0
          have hq9 := fun W => Lib.run_eql_slice_nil (P := Tryz.prog) W 24 _ (some ⟨gf, 0, none⟩) x.length cf 0 0 Tryz.underlying24
          clear bF r0 r1 r2 s0 s1 s2
          go_wp2_with fail
          refine bodyPost_ret (v := .tuple #[.slice (some ⟨gf, 0, none⟩) x.length cf, .int .i64 0]) (by simp [results, Tryz.results6, go_sem]) rfl ?_
          exact ⟨_, by rw [HE.out.2], by rw [HE.out.1]; exact E1.mono hF (fun b hb => ⟨by omega, hb.2⟩) (fun b hb => hb.2), hB9'⟩
section
variable {x y : metric_T}
theorem both_no1 (h : isM x.1 x.2.1 x.2.2 = false) : bothM x y = false := by unfold bothM; rw [h]; rfl
theorem both_no2 (h : isM y.1 y.2.1 y.2.2 = false) : bothM x y = false := by unfold bothM; rw [h, Bool.and_false]
theorem both_yes (h : isM x.1 x.2.1 x.2.2 = true) (h' : isM y.1 y.2.1 y.2.2 = true) : bothM x y = true := by unfold bothM; rw [h, h']; rfl
theorem ci_no (h : bothM x y = false) : ciC x y = 0 ∧ ciK x y = 1 := by unfold ciC ciK; rw [h]; exact ⟨rfl, rfl⟩
theorem ci_yes (h : bothM x y = true) : ciC x y = ((two x y).all.length : Nat) ∧ ciK x y = 0 := by unfold ciC ciK; rw [if_pos h, if_pos h]; exact ⟨rfl, rfl⟩
theorem io_no (h : bothM x y = false) : ioL x y = [] ∧ ioK x y = 1 := by unfold ioL ioK; rw [h]; exact ⟨rfl, rfl⟩
theorem io_yes (h : bothM x y = true) : ((two x y).all = [] → ioL x y = [] ∧ ioK x y = 4) ∧ (∀ a r, (two x y).all = a :: r → ioL x y = a ∧ ioK x y = 0) := by
  unfold ioL ioK
  rw [if_pos h, if_pos h]
  refine ⟨fun e => ?_, fun a r e => ?_⟩
  · rw [e, if_pos rfl]; exact ⟨rfl, rfl⟩
  · rw [e, if_neg (by simp)]; exact ⟨rfl, rfl⟩
theorem io_len (a : List Int) (r : List (List Int)) (hM : isM x.1 x.2.1 x.2.2 = true) (e : (two x y).all = a :: r) : a.length = x.1.length := by
  unfold Two.all at e
  split at e
  · exact (two x y).isos_len (two x y).os.length [] (by simp) a (by rw [e]; simp)
  · cases e
end
theorem specCI_c (w : World) (v : Value) (x : metric_T) (h : metric_R w w.heap.size v x) (hs : metric_Sh x) (v' : Value) (y : metric_T) (h' : metric_R w w.heap.size v' y) (hs' : metric_Sh y) :
    Calls Tryz.prog 9 #[v, v'] w (Re w (.tuple #[.int .i64 (ciC x y), .int .i64 (ciK x y)])) := by
  obtain ⟨A, n, c, D, m, e, rfl, h1, h2, h3⟩ := h
  obtain ⟨A', n', c', D', m', e', rfl, k1, k2, k3⟩ := h'
  have hs2 : x.1.length + x.2.2.length ≤ 1073741824 := hs
  have hs3 : y.1.length + y.2.2.length ≤ 1073741824 := hs'
  have l1 := h1.len
  have l2 := h2.len
  have l3 := k1.len
  have l4 := k2.len
  exact specCI_T w (two x y) _ _ A n c D m e A' n' c' D' m' e' h1 h2 k1 k2 (by omega) (by omega) (by omega) (by omega) (fun hh => ci_no (both_no1 hh)) (fun hh => ci_no (both_no2 hh)) (fun hh hk => ci_yes (both_yes hh hk))
theorem implCI_c (w : World) (v : Value) (x : metric_T) (h : metric_R w w.heap.size v x) (hs : metric_Sh x) (v' : Value) (y : metric_T) (h' : metric_R w w.heap.size v' y) (hs' : metric_Sh y) :
    Calls Tryz.prog 8 #[v, v'] w (Re w (.tuple #[.int .i64 (ciC x y), .int .i64 (ciK x y)])) := by
  obtain ⟨A, n, c, D, m, e, rfl, h1, h2, h3⟩ := h
  obtain ⟨A', n', c', D', m', e', rfl, k1, k2, k3⟩ := h'
  have hs2 : x.1.length + x.2.2.length ≤ 1073741824 := hs
  have hs3 : y.1.length + y.2.2.length ≤ 1073741824 := hs'
  have l1 := h1.len
  have l2 := h2.len
  have l3 := k1.len
  have l4 := k2.len
  exact implCI_T w (two x y) _ _ A n c D m e A' n' c' D' m' e' h1 h2 k1 k2 (by omega) (by omega) (by omega) (by omega) (fun hh => ci_no (both_no1 hh)) (fun hh => ci_no (both_no2 hh)) (fun hh hk => ci_yes (both_yes hh hk))
theorem specIO_c (w : World) (v : Value) (x : metric_T) (h : metric_R w w.heap.size v x) (hs : metric_Sh x) (v' : Value) (y : metric_T) (h' : metric_R w w.heap.size v' y) (hs' : metric_Sh y) :
    Calls Tryz.prog 7 #[v, v'] w (MkEC ints_E w (ioL x y) (ioK x y)) := by
  obtain ⟨A, n, c, D, m, e, rfl, h1, h2, h3⟩ := h
  obtain ⟨A', n', c', D', m', e', rfl, k1, k2, k3⟩ := h'
  have hs2 : x.1.length + x.2.2.length ≤ 1073741824 := hs
  have hs3 : y.1.length + y.2.2.length ≤ 1073741824 := hs'
  have l1 := h1.len
  have l2 := h2.len
  have l3 := k1.len
  have l4 := k2.len
  exact specIO_T w (two x y) _ _ A n c D m e A' n' c' D' m' e' h1 h2 k1 k2 (by omega) (by omega) (by omega) (by omega) (fun hh => io_no (both_no1 hh)) (fun hh => io_no (both_no2 hh)) (fun hh hk => io_yes (both_yes hh hk))
theorem implIO_c (w : World) (v : Value) (x : metric_T) (h : metric_R w w.heap.size v x) (hs : metric_Sh x) (v' : Value) (y : metric_T) (h' : metric_R w w.heap.size v' y) (hs' : metric_Sh y) :
    Calls Tryz.prog 6 #[v, v'] w (MkEC ints_E w (ioL x y) (ioK x y)) := by
  obtain ⟨A, n, c, D, m, e, rfl, h1, h2, h3⟩ := h
  obtain ⟨A', n', c', D', m', e', rfl, k1, k2, k3⟩ := h'
  have hs2 : x.1.length + x.2.2.length ≤ 1073741824 := hs
  have hs3 : y.1.length + y.2.2.length ≤ 1073741824 := hs'
  have l1 := h1.len
  have l2 := h2.len
  have l3 := k1.len
  have l4 := k2.len
  exact implIO_T w (two x y) _ _ A n c D m e A' n' c' D' m' e' h1 h2 k1 k2 (by omega) (by omega) (by omega) (by omega) (fun hh => io_no (both_no1 hh)) (fun hh => io_no (both_no2 hh)) (fun hh hk => io_yes (both_yes hh hk)) (fun a r hm he hn => by have h9 := io_len a r hm he; rw [hn] at h9; have h8 := (isM_iff.1 hm).ok.g.l1; simp at h9; have h7 : (two x y).os.length = x.1.length := rfl; rw [← h9] at h7; omega)
end Go.Proofs.YtonehmjoolflfaaGreatDoor
