
/- The walk of l10Negative. -/
import Derived.Test.YtneflhachjlmkaaS3
import Derived.WalkLawsBesides
namespace Go.Proofs.Ytneflhachjlmkaa
open Go Go.RowKit Grp
set_option linter.unusedSimpArgs false
set_option linter.unusedVariables false

theorem mix_set {zs ts : List Int} (hl : zs.length = ts.length) {k : Nat} (hk : k < ts.length) : (zs.take k ++ ts.drop k).set k (gi zs k) = zs.take (k + 1) ++ ts.drop (k + 1) := by
  rw [take_gi (show k < zs.length by omega), drop_gi hk, List.set_append_right _ _ (by simp; omega)]
  simp [show min k zs.length = k by omega]
theorem mix_gi {zs ts : List Int} (hl : zs.length = ts.length) {k : Nat} (hk : k < ts.length) : gi (zs.take k ++ ts.drop k) k = gi ts k := by
  rw [drop_gi hk]
  unfold gi
  rw [List.getD_eq_getElem?_getD, List.getElem?_append_right (by simp; omega)]
  simp [show min k zs.length = k by omega]
theorem mix_len {zs ts : List Int} (hl : zs.length = ts.length) {k : Nat} (hk : k ≤ ts.length) : (zs.take k ++ ts.drop k).length = ts.length := by simp; omega
theorem gi_zip {f : Int → Int → Int} {xs ys : List Int} (hl : xs.length = ys.length) {k : Nat} (hk : k < xs.length) : gi (List.zipWith f xs ys) k = f (gi xs k) (gi ys k) := by
  unfold gi
  simp only [List.getD_eq_getElem?_getD, List.getElem?_zipWith, List.getElem?_eq_getElem hk, List.getElem?_eq_getElem (show k < ys.length by omega)]
  rfl
def Zg (os : List Int) (x : Int) : List Int := List.zipWith negd os (Dg os x)
theorem Zg_len (os : List Int) (x : Int) : (Zg os x).length = (Dg os x).length := by simp [Zg, Dg_length]
theorem Zg_el (os : List Int) (x : Int) : elR os.reverse (Zg os x).reverse = Ng os x := by
  unfold Zg Ng
  rw [List.reverse_zipWith (by rw [Dg_length]), ← negR_el]
  unfold Dg
  rw [List.reverse_reverse]
theorem Zg_rng {os : List Int} (h : OkG os) (x : Int) {k : Nat} (hk : k < os.length) : 0 ≤ gi (Zg os x) k ∧ gi (Zg os x) k < gi os k := by
  unfold Zg
  rw [gi_zip (by rw [Dg_length]) hk]
  exact em (h.pos _ (gi_mem hk))

set_option maxHeartbeats 1000000 in
theorem l10Negative_any (w : World) (B : Nat) (A : Option Addr) (n c : Nat) (xs : List Int) (x : Int) (h : Sl w B A n c xs) (hB : B ≤ w.heap.size) (hG : OkG xs) (x0 : 0 ≤ x) (x1 : x ≤ 1000000) :
    Calls Try.prog 163 #[.slice A n c, .int .i64 x] w (Re w (.int .i64 (Ng xs x))) := by
  obtain rfl := h.len
  have h4 := hG.l4
  have h1 := hG.l1
  have hlD := Dg_length xs x
  have hdr := fun k hk => Dg_rng hG x0 (k := k) hk
  have hzr := fun k hk => Zg_rng hG x (k := k) hk
  have hHD := hide hdr
  have hHZ := hide hzr
  have hLD := hide hlD
  clear hdr hzr hlD
  go_enter Try.func163, Try.ntmps163
  go_wp2_with fail
  refine (l10Digits_any _ _ _ _ _ _ _ h hB hG x0 x1).mono ?_
  rintro e W ⟨v, rfl, hO, hbl⟩
  rcases hO.form with ⟨_, h0⟩ | ⟨g, cap, rfl, hg, hgl, hcap⟩
  · have := hLD.out; rw [h0] at this; simp at this; omega
  rw [hLD.out] at hO hcap ⊢
  go_wp2
  go_loopw [6] (fun i wr => ∃ (k : Nat), k ≤ xs.length ∧ i = .int .i64 k ∧ Ow wr w.heap.size (.slice (some ⟨g, 0, none⟩) xs.length cap) ((Zg xs x).take k ++ (Dg xs x).drop k) ∧ Below w.heap.size w wr) (fun i _ => xs.length - (intOf i).toNat)
  case atStart => exact ⟨0, by omega, rfl, hO, hbl⟩
  case round =>
    obtain ⟨k, hk, rfl, hOw, hb2⟩ := hrel
    by_cases hlt : k < xs.length
    · have hx := h.below (w' := wr) (hb2.mono hB)
      obtain ⟨b, off, rfl, hb, hc⟩ := hx.at_ (by omega)
      have c1 := hc k hlt
      clear hc
      have hlk : ((Zg xs x).take k ++ (Dg xs x).drop k).length = xs.length := by rw [mix_len (Zg_len _ _) (by rw [hLD.out]; omega), hLD.out]
      have c2 := hOw.cell hlk.symm hlt
      have f2 := hOw.frozen hlk.symm k
      rw [mix_gi (Zg_len _ _) (by rw [hLD.out]; exact hlt)] at c2
      have hnx := hOw.store hlk.symm k (gi (Zg xs x) k)
      rw [mix_set (Zg_len _ _) (by rw [hLD.out]; exact hlt)] at hnx
      have hz : gi (Zg xs x) k = (gi xs k - gi (Dg xs x) k) % gi xs k := by unfold Zg; rw [gi_zip (by rw [hLD.out]) hlt]; rfl
      rw [hz] at hnx
      obtain ⟨d0, d1⟩ := hHD.out k hlt
      have hm2 : 2 ≤ gi xs k := hG.m2 _ (gi_mem hlt)
      have hm16 : gi xs k ≤ 16 := hG.m16 _ (gi_mem hlt)
      clear hz hlk
      obtain ⟨m, hm⟩ : ∃ m, gi xs k = m := ⟨_, rfl⟩
      obtain ⟨t, ht⟩ : ∃ t, gi (Dg xs x) k = t := ⟨_, rfl⟩
      rw [hm] at c1 hm2 hm16 d1 hnx
      rw [ht] at c2 d0 d1 hnx
      clear hm ht
      have t0 : ¬ m = 0 := by omega
      have t5 : IntKind.i64.wrap (m - t) = m - t := wrap_in (by omega) (by omega)
      have t6 : (m - t).tmod m = (m - t) % m := Int.tmod_eq_emod_of_nonneg (by omega)
      have i0 : 0 ≤ (k : Int) := by omega
      have i1 : (k : Int) < (xs.length : Int) := by omega
      rw [show (m - t) % m = -t % m by simp] at hnx
      go_wp2
      refine wp_region_ord [0, 1, 2, 3, 4, 5, 6, 7, 8, 9, 10, 11, 12, 13, 14, 15, 16, 17] 16 (fun w' => w'.cell? ⟨b, off + k, none⟩ = some (.int .i64 m) ∧ w'.cell? ⟨g, k, none⟩ = some (.int .i64 t)) (by kernel_rfl) (by kernel_rfl) (by kernel_rfl) (fun _ _ _ _ _ h => h) ⟨?_, ?_⟩ ?_
      · go_simp
      · go_simp
      repeat (apply ord_take rfl (by rfl) (by rfl); (focus (intro w hSw; (try dsimp only at hSw); go_simp; (try with_reducible rfl))); (try simp only [Act.put, List.setIfInBounds_toArray, List.set_cons_zero, List.set_cons_succ]))
      refine ord_do rfl (by rfl) (by rfl) (fun K hK => ?_)
      go_simp
      refine hK.out _ _ (fun h => absurd h (by omega)) ?_
      (try simp only [Act.put, List.setIfInBounds_toArray, List.set_cons_zero, List.set_cons_succ])
      clear hK K
      refine ord_do rfl (by rfl) (by rfl) (fun K hK => ?_)
      go_simp
      refine hK.out _ _ (fun h => absurd h (by omega)) ?_
      (try simp only [Act.put, List.setIfInBounds_toArray, List.set_cons_zero, List.set_cons_succ])
      clear hK K
      refine ord_nil ?_
      go_wp2
      go_roundw
      case rel => exact ⟨k + 1, by omega, by go_num, hnx.drew, (hb2.drew).setCell (by dsimp only; omega) _⟩
      case measure => simp [intOf] <;> omega
    · obtain rfl : k = xs.length := by omega
      have hOw' : Ow wr w.heap.size (.slice (some ⟨g, 0, none⟩) xs.length cap) (Zg xs x) := by
        rw [List.take_of_length_le (by rw [Zg_len, hLD.out]; omega), List.drop_of_length_le (by rw [hLD.out]; omega), List.append_nil] at hOw
        exact hOw
      obtain ⟨A2, c2, he, hs2⟩ := hOw'.sl (fun y hy => by
        obtain ⟨j, hj, rfl⟩ := List.getElem_of_mem hy
        have hj' : j < xs.length := by rw [Zg_len, hLD.out] at hj; exact hj
        have := hHZ.out j hj'
        have hm16 : gi xs j ≤ 16 := hG.m16 _ (gi_mem hj')
        unfold gi at this
        rw [List.getD_eq_getElem?_getD, List.getElem?_eq_getElem hj] at this
        unfold gi at hm16
        simp only [Option.getD_some] at this
        exact ⟨by omega, by omega⟩)
      have hlz : (Zg xs x).length = xs.length := by rw [Zg_len, hLD.out]
      rw [hlz] at he hs2
      obtain ⟨rfl, rfl⟩ : some ⟨g, 0, none⟩ = A2 ∧ cap = c2 := by cases he; exact ⟨rfl, rfl⟩
      have hx := (h.below (w' := wr) (hb2.mono hB)).more (show B ≤ wr.heap.size by have := hb2.size; omega)
      have hE := Zg_el xs x
      have hEE := hide hE
      clear hE
      go_wp2_with fail
      refine (l10Element_any _ _ _ _ _ _ _ _ _ hx hs2 hG (fun k hk => hHZ.out k hk)).mono ?_
      rintro e W' ⟨rfl, m, rfl⟩
      go_wp2
      go_ret
      exact ⟨by rw [hEE.out]; rfl, below_drewN hb2 _⟩
end Go.Proofs.Ytneflhachjlmkaa
