
/- The walks of emptyCube, opposite, copyRing: cubes in new memory. -/
import Derived.Test.YteobaodabjdcaaaCT5
import Derived.Test.YteobaodabjdcaaaCG3
import Derived.Test.YteobaodabjdcaaaLa
import Derived.Test.YteobaodabjdcaaaOtc
import Derived.Deep.DeepCutAuto
namespace Go.Proofs.Yteobaodabjdcaaa
open Go Go.RowKit
set_option linter.unusedSimpArgs false
set_option linter.unusedVariables false
set_option maxRecDepth 100000
theorem wp_pushG {α : Type} {E : Own α} (hE : Kp E) {o : Oper} {a : Act} {K : Act → World → Prop} {Q : Exit → Act → World → Prop} (st t : TypeId) (z : Value) (bytes : Nat) (hu : Try.prog.underlying st = some (.slice t)) (hinfo : (Try.prog.info? t).map (fun i => (i.zero, i.size, i.bytes)) = some (some z, 1, bytes)) (hby : bytes ≤ 24) (hzc : z.cells = #[z])
    (w : World) (s x : Operand) (ho : o.op = .call { callee := .builtin .append, args := #[s, x], argTypes := #[st, st] })
    (B : Nat) (v : Value) (xs : List α) (hs : a.eval s = v) (w0 : World) (hG : Grow E t B w0 v xs) (hw : Below w0.heap.size w0 w) (u : Value) (e : α) (fu : Nat → Prop) (he : E w u e fu) (hfu : ∀ b, fu b → w0.heap.size ≤ b ∧ b < w.heap.size) (hu1 : u.oneCell' = true)
    (H T N : Nat) (hx : a.eval x = .slice (some ⟨H, 0, none⟩) 1 1) (hb : Blk w H T #[u]) (hn : xs.length ≤ 1048576) (hB : B ≤ w0.heap.size) (hH : w.heap.size = N + 1)
    (h : ∀ g cap w', Grow E t B w' (.slice (some ⟨g, 0, none⟩) (xs.length + 1) cap) (xs ++ [e]) → Below B w w' → K (a.put o.dst (.slice (some ⟨g, 0, none⟩) (xs.length + 1) cap)) w') :
    o.wp Try.prog a w K Q := by
  obtain ⟨us, F, fp, h1, h2⟩ := hG
  have h3 := h1.bel hE hw
  have hl := h1.len
  obtain ⟨i0, hi0, hz0, hz1, hz2⟩ := info_parts hinfo
  refine wp_append_lies w s x _ ho 0 t i0 _ 1 bytes hu hi0 hz0 hz1 hz2 (by rw [hzc]; rfl) (by omega) v us.length _ hs h3.row ⟨H, 0, none⟩ 1 1 [u] hx rfl
    (World.news_of_block (cs := #[u]) hb) (by simpa using hu1) (by omega) (by unfold maxLen; omega) (by have h1 : (us.length + 1) * bytes ≤ (us.length + 1) * 24 := Nat.mul_le_mul_left _ hby; omega) (Nat.zero_le _) (N + 1) hH ?_
  intro g cap w' q1 q2 q3 q4
  have hsz := hw.size
  have hP : PushV t w 0 v us u N g cap w' := ⟨by unfold OwV; simpa using q1, q2, q3, q4⟩
  have h4 := OwU.push hE h3 he (fun b hb hf => by have := (hfu b hb).1; have := h1.bd b hf; omega) (fun b hb => (hfu b hb).2) hH hP
  rw [hl]
  refine h g cap w' (Grow.ofL h4 fun b hb => ?_) ?_
  · rcases hb with hb | hb | rfl
    · exact h2 b hb
    · have := (hfu b hb).1; omega
    · rcases q3 with p3 | p3
      · exact h2 _ (h1.fp_ _ p3)
      · omega
  · exact (Below.refl _ _).grown q2 (by omega) (fun k hk => h2 k (h1.fp_ k hk))
theorem wp_region_btc {P : Program} {ops : Array Oper} {Q : Exit → Act → World → Prop} {id : Nat} {a : Act} {w : World} (t : Ot) (z : Nat) (B : Nat) (W : World) (hm : P.follows .mixedOrders = true) (hs : Region.noSelect ops = true)
    (hok : okTc .any ops z ops.size t (Array.replicate ops.size false) = true)
    (hQ : ∀ c a d v w, Q (.panic c) (Act.put a (some d) v) w → Q (.panic c) a w) (hS : Below B W w) (h : ∀ wd, Below B W wd → OrdT P ops Q (Below B W) z t a wd) : (Code.region id ops true).wp P Q a w :=
  wp_region_otc t z (Below B W) hm hs hok hQ hS.drew (h _ hS.drew)
theorem Grow.set {α : Type} {E : Own α} (hE : Kp E) {t : TypeId} {B g : Nat} {w : World} {v : Value} {xs : List α} (h : Grow E t B w v xs) (hg : g < B) (i : Nat) (u : Value) : Grow E t B (w.setCell ⟨g, i, none⟩ u) v xs :=
  Grow.wr hE h (fq := fun b => b = g) ⟨rfl, rfl, rfl, by simp [World.setCell], fun b' _ hn => Below.heap_setCell _ _ _ _ (fun e => hn e)⟩ (fun b hb => .inr (by omega))
/-- It returned a ring in new memory. -/
def MkR (w : World) (n : Nat) (f : F3) (e : Ending) (w' : World) : Prop := ∃ v, e = .returned (.agg #[v]) ∧ E3 w' v (cub n f) (fun b => w.heap.size ≤ b ∧ b < w'.heap.size) ∧ Below w.heap.size w w'
set_option maxHeartbeats 4000000 in
theorem emptyCube_any (w : World) (n : Nat) (hn : n ≤ 16) : Calls Try.prog 21 #[.int .i64 n] w (MkR w n (fun _ _ _ => 0)) := by
  have hb1 : Below w.heap.size w ((w.alloc (.cells #[.slice none 0 0] 31)).alloc (.cells #[.slice none 0 0] 31)) := (by repeat (first | assumption | exact Below.refl _ _ | apply below_drewN | apply Below.drew | apply Below.alloc | apply Below.setCell | omega | (focus (simp; done)) | (focus (simp; omega))))
  have bR0 : Blk ((w.alloc (.cells #[.slice none 0 0] 31)).alloc (.cells #[.slice none 0 0] 31)) w.heap.size 31 #[.slice none 0 0] := (Blk.new _ _ _).alloc _
  have bO0 : Blk ((w.alloc (.cells #[.slice none 0 0] 31)).alloc (.cells #[.slice none 0 0] 31)) (w.heap.size + 1) 31 #[.slice none 0 0] := Blk.new' _ _ _ _ (by simp)
  have hz1 : ((w.alloc (.cells #[.slice none 0 0] 31)).alloc (.cells #[.slice none 0 0] 31)).heap.size = w.heap.size + 2 := by simp
  have hG0 : Grow E2 33 (w.heap.size + 2) ((w.alloc (.cells #[.slice none 0 0] 31)).alloc (.cells #[.slice none 0 0] 31)) (.slice none 0 0) (List.replicate 0 (List.replicate n (List.replicate n (0 : Int)))) := Grow.nil _
  go_enter Try.func21, Try.ntmps21
  go_wp2_with fail
  obtain ⟨W0, hW0⟩ : ∃ W, (w.alloc (.cells #[.slice none 0 0] 31)).alloc (.cells #[.slice none 0 0] 31) = W := ⟨_, rfl⟩
  rw [hW0] at hb1 bR0 bO0 hz1 hG0 ⊢
  clear hW0
  go_loopw [6] (fun i wr => ∃ (k : Nat) (vv : Value), k ≤ n ∧ i = .int .i64 k ∧ Blk wr w.heap.size 31 #[.slice none 0 0] ∧ Blk wr (w.heap.size + 1) 31 #[vv] ∧ Grow E2 33 (w.heap.size + 2) wr vv (List.replicate k (List.replicate n (List.replicate n (0 : Int)))) ∧ Below w.heap.size w wr) (fun i _ => n - (intOf i).toNat)
  case atStart => exact ⟨0, _, by omega, rfl, bR0, bO0, hG0, hb1⟩
  case round =>
    clear bR0 bO0 hG0 hb1
    obtain ⟨k, vv, hk, rfl, bR, bO, hG, hB⟩ := hrel
    by_cases hlt : k < n
    · obtain ⟨wk, hwk⟩ : ∃ wk, wk = wr := ⟨_, rfl⟩
      subst hwk
      have q0 := bO.cell 0
      have hq := bO.lt
      obtain ⟨A0, c0, rfl⟩ := hG.val
      rw [List.length_replicate] at hG bO q0
      have hZ := hide (fun W => zeros_any W n n (by omega) (by omega))
      go_wp2_with fail
      refine wp_region_btc (.one 0 (.one 1 (.one 2 (.one 3 (.one 4 (.one 5 (.one 6 (.one 7 (.one 8 .nil))))))))) 6 wk.heap.size wk (by kernel_rfl) (by kernel_rfl) (by kernel_rfl) (fun _ _ _ _ _ h => h) (Below.refl _ _) (fun wd hBe => ?_)
      repeat (first | (apply ot_tk rfl (by rfl) (by rfl) (by rfl); (focus (intro wx hSw; have s0 := (hSw.cell (p := ⟨w.heap.size + 1, 0, none⟩) hq).trans q0; go_simp; (try with_reducible rfl))); (try simp only [Act.put, List.setIfInBounds_toArray, List.set_cons_zero, List.set_cons_succ])) | (apply ot_skip rfl (by rfl) (by rfl) (fun _ => hBe); (try simp only [Act.put, List.setIfInBounds_toArray, List.set_cons_zero, List.set_cons_succ])))
      refine ot_do rfl (by rfl) (by rfl) (fun K hK => ?_)
      go_simp
      refine (hZ.out _).mono ?_
      rintro e wn ⟨v2, rfl, hGz, hbz⟩
      obtain ⟨A2, c2, rfl⟩ := hGz.val
      have hEz := hGz.toL
      rw [List.length_replicate] at hEz ⊢
      have hzd := hBe.size
      replace hBe := hBe.trans (hbz.mono hBe.size)
      clear hbz hGz
      refine hK.out _ _ (fun _ => hBe) ?_
      (try simp only [Act.put, List.setIfInBounds_toArray, List.set_cons_zero, List.set_cons_succ])
      clear hK K
      refine ot_do rfl (by rfl) (by rfl) (fun K hK => ?_)
      go_simp
      obtain ⟨wa, H, hHe, hwa, hBa, hsub, bH, hHB⟩ := be_alloc hBe 33 #[.slice A2 n c2]
      rw [hwa, hHe]
      have hEa := OwL.bel kp1 hEz hsub
      have hza : wa.heap.size = H + 1 := by rw [← hwa]; simp; omega
      clear hwa hBe hsub hEz
      have hBe := hBa
      clear hBa
      refine hK.out _ _ (fun _ => hBe) ?_
      (try simp only [Act.put, List.setIfInBounds_toArray, List.set_cons_zero, List.set_cons_succ])
      clear hK K
      refine ot_do rfl (by rfl) (by rfl) (fun K hK => ?_)
      go_loud (refine wp_pushG kp2 29 33 _ 24 Try.underlying29 rows2_info (by omega) rfl _ _ _ (by rfl) (w.heap.size + 2) _ _ (by rfl) wk hG hBe (.slice A2 n c2) _ _ hEa (fun b hb => ⟨by omega, by have := hb.2; omega⟩) rfl H _ H (by rfl) bH (by simp; omega) (by omega) hza ?_)
      intro g cap w4 hG4 hB4
      rw [List.length_replicate, rep_snoc] at hG4
      rw [List.length_replicate]
      have bO4 := ((bO.all hBe).below hB4 (by omega))
      have bR4 := ((bR.all hBe).below hB4 (by omega))
      have hBx := (hB.trans (hBe.mono hB.size)).trans (hB4.mono (by omega))
      have c4 := bO4.cell 0
      have f4 := bO4.frozen 0
      refine hK.out _ _ (fun h => absurd h (by omega)) ?_
      (try simp only [Act.put, List.setIfInBounds_toArray, List.set_cons_zero, List.set_cons_succ])
      clear hK K
      clear hG hBe hEa hB4 bO bR q0
      refine ot_do rfl (by rfl) (by rfl) (fun K hK => ?_)
      go_simp
      refine hK.out _ _ (fun h => absurd h (by omega)) ?_
      (try simp only [Act.put, List.setIfInBounds_toArray, List.set_cons_zero, List.set_cons_succ])
      clear hK K
      refine ot_do rfl (by rfl) (by rfl) (fun K hK => ?_)
      go_simp
      refine hK.out _ _ (fun h => absurd h (by omega)) ?_
      (try simp only [Act.put, List.setIfInBounds_toArray, List.set_cons_zero, List.set_cons_succ])
      clear hK K
      refine ot_nil ?_
      have hG5 : Grow E2 33 (w.heap.size + 2) (w4.setCell ⟨w.heap.size + 1, 0, none⟩ (.slice (some ⟨g, 0, none⟩) (k + 1) cap)) (.slice (some ⟨g, 0, none⟩) (k + 1) cap) (List.replicate (k + 1) (List.replicate n (List.replicate n (0 : Int)))) := hG4.set kp2 (by omega) 0 _
      have bO5 := bO4.store 0 (.slice (some ⟨g, 0, none⟩) (k + 1) cap)
      have bR5 := bR4.far (p := ⟨w.heap.size + 1, 0, none⟩) (by show w.heap.size ≠ w.heap.size + 1; omega) (.slice (some ⟨g, 0, none⟩) (k + 1) cap)
      have hB5 := hBx.setCell (p := ⟨w.heap.size + 1, 0, none⟩) (by show w.heap.size ≤ w.heap.size + 1; omega) (.slice (some ⟨g, 0, none⟩) (k + 1) cap)
      clear hG4 bO4 bR4 hBx c4 f4
      go_wp2_with fail
      go_roundw
      case rel => exact ⟨k + 1, _, by omega, by go_num, bR5, bO5, hG5, hB5⟩
      case measure => simp [intOf] <;> omega
    · obtain rfl : k = n := by omega
      obtain ⟨A0, cc, rfl⟩ := hG.val
      rw [List.length_replicate] at hG bO
      have c0 := bO.cell 0
      have c1 := bR.cell 0
      have f1 := bR.frozen 0
      have hG5 := (hG.set kp2 (g := w.heap.size) (by omega) 0 (.slice A0 k cc)).toL
      have bR5 := (bR.store 0 (.slice A0 k cc)).cell 0
      have hB5 := hB.setCell (p := ⟨w.heap.size, 0, none⟩) (Nat.le_refl _) (.slice A0 k cc)
      go_wp2_with fail
      refine bodyPost_ret (v := .agg #[.slice A0 k cc]) (by simp [results, Try.results21, go_sem, bR5]) rfl ?_
      exact ⟨_, rfl, by rw [← rep_cub]; exact OwL.mono hG5 (fun b hb => ⟨by have := hb.1; omega, hb.2⟩) (fun b hb => hb.2), hB5⟩
end Go.Proofs.Yteobaodabjdcaaa
