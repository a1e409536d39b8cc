
/- The walks of l03Is on a ring, of l12Shape on data. The walk of l12Fault on the data of a metric. -/
import Derived.Test.YtlhfjfpgoaiijaaDM4
import Derived.Test.YtlhfjfpgoaiijaaDm0
import Derived.Test.YtlhfjfpgoaiijaaRS2
import Derived.WalkLawsBesides
import Derived.Test.YtlhfjfpgoaiijaaDM5
import Derived.Test.YtlhfjfpgoaiijaaDM6
namespace Go.Proofs.Ytlhfjfpgoaiijaa
open Go Go.RowKit Grp
set_option linter.unusedSimpArgs false
set_option linter.unusedVariables false
set_option maxRecDepth 100000
set_option maxHeartbeats 4000000 in
theorem l03Is_ok (w : World) (A : Option Addr) (n c : Nat) (t : Tb) (h : Sl3 w w.heap.size A n c t) (hC : IsCb t) (hf : flt t = none) : Calls Try.prog 58 #[.agg #[.slice A n c]] w (Re w (.bool true)) := by
  obtain rfl := h.len
  have hrows : ∀ m ∈ t, m.length = t.length ∧ ∀ r ∈ m, r.length = t.length := fun m hm => ⟨(hC.row m hm).1, fun r hr => ((hC.row m hm).2 r hr).1⟩
  have h16 := hC.le
  obtain ⟨b, off, b1, o1, c1, b2, o2, c2, rfl, hV⟩ := view_of h hC.pos hrows
  have hcc := h.cap
  go_enter Try.func58, Try.ntmps58
  go_wp2_with fail
  obtain ⟨W, hW⟩ : ∃ W, w.alloc (.cells #[.slice (some ⟨b, off, none⟩) t.length c] 70) = W := ⟨_, rfl⟩
  have hbW : Below w.heap.size w W := by rw [← hW]; exact (by repeat (first | assumption | exact Below.refl _ _ | apply below_drewN | apply Below.drew | apply Below.alloc | apply Below.setCell | omega | (focus (simp; done)) | (focus (simp; omega))))
  have q0 : W.cell? ⟨w.heap.size, 0, none⟩ = some (.slice (some ⟨b, off, none⟩) t.length c) := by rw [← hW]; exact (Blk.new _ _ _).cell 0
  rw [hW]
  clear hW
  have hcb := l03Cube_any W w.heap.size _ t.length c t (h.below hbW) (by omega) (fun m hm => ⟨by have := (hrows m hm).1; omega, fun r hr => by have := (hrows m hm).2 r hr; omega⟩)
  rw [cbB_t hC] at hcb
  have HC := hide hcb
  clear hcb
  go_wp2_with fail
  refine HC.out.mono ?_
  rintro e w1 ⟨rfl, d, rfl⟩
  have hb1 := below_drewN hbW d
  have HF := hide (l03Fault_any (W.drewN d) t.length c b off b1 o1 c1 b2 o2 c2 t (hV.keep hb1 hb1.size) hC rfl hcc)
  go_wp2_with fail
  refine HF.out.mono ?_
  intro e w2 h2
  rw [hf] at h2
  obtain ⟨h3, -, hb2⟩ := h2
  obtain rfl := h3 rfl
  clear h3
  go_wp2_with fail
  go_ret
  exact ⟨rfl, hb1.trans (hb2.mono hb1.size)⟩
set_option maxHeartbeats 4000000 in
theorem l12Shape_ok (w : World) (b off n c : Nat) (b1 o1 c1 : Nat → Nat) (f : Nat → Nat → Int) (A' : Option Addr) (c' : Nat) (ts : List Int) (V : Vq w w.heap.size n b off b1 o1 c1 f) (hT : Sl w w.heap.size A' n c' ts) (hn : n ≤ 16) (hp : 0 < n) (hc : n ≤ c) (hf : ∀ i j, i < n → j < n → InP (f i j)) (ht : ∀ x ∈ ts, InP x) :
    Calls Try.prog 37 #[.agg #[.slice (some ⟨b, off, none⟩) n c, .slice A' n c']] w (Re w (.bool true)) := by
  go_enter Try.func37, Try.ntmps37
  go_wp2_with fail
  obtain ⟨W, hW⟩ : ∃ W, w.alloc (.cells #[.slice (some ⟨b, off, none⟩) n c, .slice A' n c'] 28) = W := ⟨_, rfl⟩
  have hbW : Below w.heap.size w W := by rw [← hW]; exact (by repeat (first | assumption | exact Below.refl _ _ | apply below_drewN | apply Below.drew | apply Below.alloc | apply Below.setCell | omega | (focus (simp; done)) | (focus (simp; omega))))
  have hszW : W.heap.size = w.heap.size + 1 := by rw [← hW]; simp
  have q0 : W.cell? ⟨w.heap.size, 0, none⟩ = some (.slice (some ⟨b, off, none⟩) n c) := by rw [← hW]; exact (Blk.new _ _ _).cell 0
  have q1 : W.cell? ⟨w.heap.size, 1, none⟩ = some (.slice A' n c') := by rw [← hW]; exact (Blk.new _ _ _).cell 1
  rw [hW]
  clear hW
  replace V := V.all hbW
  replace hT := (hT.below hbW).more hbW.size
  have HTs := hide (l01Numbers_t W W.heap.size A' n c' ts hT (by omega) ht)
  go_wp2_with fail
  refine HTs.out.mono ?_
  rintro e w1 ⟨rfl, m, rfl⟩
  go_wp2_with fail
  go_loopw [4] (fun i wr => ∃ k : Nat, k ≤ n ∧ i = .int .i64 k ∧ ∃ m, W.drewN m = wr) (fun i _ => n - (intOf i).toNat)
  case atStart => exact ⟨0, by omega, rfl, m, rfl⟩
  case round =>
    obtain ⟨k, hk, rfl, m2, rfl⟩ := hrel
    by_cases hlt : k < n
    · have a0 := (V.h1 k hlt).1
      have hS := V.sl hlt (fun j hj => hf k j hlt hj)
      have HN := hide (l01Numbers_t (W.drewN m2) W.heap.size _ n (c1 k) _ (hS.drewN m2) (by omega) (fun x hx => by
        obtain ⟨j, hj, rfl⟩ := List.mem_map.1 hx
        exact hf k j hlt (List.mem_range.1 hj)))
      clear hS
      go_wp2_with fail
      refine HN.out.mono ?_
      rintro e w3 ⟨rfl, m3, rfl⟩
      go_wp2_with fail
      go_roundw
      case rel => exact ⟨k + 1, by omega, by go_num, _, rfl⟩
      case measure => simp [intOf] <;> omega
    · go_wp2_with fail
      go_ret
      exact ⟨rfl, below_drewN hbW _⟩
/-- The first things that are asked of data. -/
structure DatOk (n : Nat) (f : Nat → Nat → Int) (t : Nat → Int) : Prop where
  sym : ∀ i j, i < n → j < n → f i j = f j i
  one : ∀ i, i < n → f 0 i = 1
  tne : ∀ i, i < n → t i ≠ 0
  t0 : t 0 = 1
def uF (f : Nat → Nat → Int) (t : Nat → Int) (i j : Nat) : Int := f i j * t j % 55441
theorem uF_in (f : Nat → Nat → Int) (t : Nat → Int) (i j : Nat) : InP (uF f t i j) := inP_mod _
theorem Vq.dN {w : World} {B n b off : Nat} {b1 o1 c1 : Nat → Nat} {f : Nat → Nat → Int} (h : Vq w B n b off b1 o1 c1 f) (m : Nat) : Vq (w.drewN m) B n b off b1 o1 c1 f := ⟨h.hb, h.h1, h.h2⟩
set_option maxHeartbeats 8000000 in
theorem l12Fault_no (w : World) (b off n c : Nat) (b1 o1 c1 : Nat → Nat) (f : Nat → Nat → Int) (A' : Option Addr) (c' : Nat) (ts : List Int) (V : Vq w w.heap.size n b off b1 o1 c1 f) (hT : Sl w w.heap.size A' n c' ts) (hn : n ≤ 16) (hp : 0 < n) (hc : n ≤ c) (hf : ∀ i j, i < n → j < n → InP (f i j))
    (hd : DatOk n f (fun i => gi ts i)) (N : Int) (hw : whS n f = N) (hN : 1 ≤ N) (h00 : tmS n f f 0 0 = N) (k0 : Nat) (k1 : 0 < k0) (k2 : k0 < n) (hk0 : tmS n f f 0 k0 ≠ 0) :
    Calls Try.prog 38 #[.agg #[.slice (some ⟨b, off, none⟩) n c, .slice A' n c']] w (Re w (.int .i64 2)) := by
  have HDK := hide hd
  have HW0 := hide hw
  have H00 := hide h00
  have HK0 := hide hk0
  clear hd hw h00 hk0
  go_enter Try.func38, Try.ntmps38
  go_wp2_with fail
  obtain ⟨W, hW⟩ : ∃ W, w.alloc (.cells #[.slice (some ⟨b, off, none⟩) n c, .slice A' n c'] 28) = W := ⟨_, rfl⟩
  have hbW : Below w.heap.size w W := by rw [← hW]; exact (by repeat (first | assumption | exact Below.refl _ _ | apply below_drewN | apply Below.drew | apply Below.alloc | apply Below.setCell | omega | (focus (simp; done)) | (focus (simp; omega))))
  have hszW : W.heap.size = w.heap.size + 1 := by rw [← hW]; simp
  have q0 : W.cell? ⟨w.heap.size, 0, none⟩ = some (.slice (some ⟨b, off, none⟩) n c) := by rw [← hW]; exact (Blk.new _ _ _).cell 0
  have q1 : W.cell? ⟨w.heap.size, 1, none⟩ = some (.slice A' n c') := by rw [← hW]; exact (Blk.new _ _ _).cell 1
  rw [hW]
  clear hW
  replace V := V.all hbW
  replace hT := (hT.below hbW).more hbW.size
  have hlW : w.heap.size < W.heap.size := by omega
  obtain ⟨bt', ot', rfl, hbt, hct⟩ := hT.at_ hp
  have HCT := hide hct
  have hcT := hT.cap
  clear hct
  go_wp2_with fail
  go_loopw [4] (fun i wr => ∃ x : Nat, x ≤ n ∧ i = .int .i64 x ∧ ∃ m, W.drewN m = wr) (fun i _ => n - (intOf i).toNat)
  case atStart => exact ⟨0, by omega, rfl, 0, rfl⟩
  case round =>
    obtain ⟨x, hx, rfl, m, rfl⟩ := hrel
    by_cases hlx : x < n
    · go_wp2_with fail
      go_loopw [5] (fun i wr => ∃ y : Nat, y ≤ n ∧ i = .int .i64 y ∧ ∃ m, W.drewN m = wr) (fun i _ => n - (intOf i).toNat)
      case atStart => exact ⟨0, by omega, rfl, m, rfl⟩
      case round =>
        obtain ⟨y, hy, rfl, m2, rfl⟩ := hrel
        by_cases hly : y < n
        · have a0 := (V.h1 x hlx).1
          have a1 := V.h2 x y hlx hly
          have a2 := (V.h1 y hly).1
          have a3 := V.h2 y x hly hlx
          have a4 := (V.h1 0 hp).1
          have a5 := V.h2 0 x hp hlx
          have a6 := V.h2 0 0 hp hp
          have a7 := HCT.out x hlx
          have a8 := HCT.out 0 hp
          have l0 := (V.h1 x hlx).2.2
          have l1 := (V.h1 y hly).2.2
          have l2 := (V.h1 0 hp).2.2
          simp only [Nat.add_zero] at a4 a6 a8
          rw [← HDK.out.sym x y hlx hly] at a3
          rw [HDK.out.one x hlx] at a5
          rw [HDK.out.one 0 hp] at a6
          rw [HDK.out.t0] at a8
          have h7 := HDK.out.tne x hlx
          obtain ⟨v, ev⟩ : ∃ v, f x y = v := ⟨_, rfl⟩
          obtain ⟨u, eu⟩ : ∃ u, gi ts x = u := ⟨_, rfl⟩
          rw [ev] at a1 a3
          rw [eu] at a7 h7
          have t1 : (v != v) = false := by simp
          have t2 : (u == 0) = false := by simp [h7]
          clear ev eu h7
          go_wp2
          go_quiet (fail)
          go_wp2
          go_roundw
          case rel => exact ⟨y + 1, by omega, by go_num, _, rfl⟩
          case measure => simp [intOf] <;> omega
        · go_wp2_with fail
          go_roundw
          case rel => exact ⟨x + 1, by omega, by go_num, _, rfl⟩
          case measure => simp [intOf] <;> omega
    · have HWh := hide (l12Whole_any (W.drewN m) b off n c b1 o1 c1 f (some ⟨bt', ot', none⟩) c' ts (V.dN m) (hT.drewN m) hn hp hc hf)
      rw [HW0.out] at HWh
      have hB := below_drewN (Below.refl W.heap.size W) m
      go_wp2_with fail
      refine HWh.out.mono ?_
      rintro e w1 ⟨rfl, hb1⟩
      have hB1 : Below W.heap.size W w1 := hB.trans hb1
      have r0 := (hB1.cell (p := ⟨w.heap.size, 0, none⟩) hlW).trans q0
      have r1 := (hB1.cell (p := ⟨w.heap.size, 1, none⟩) hlW).trans q1
      have t1 : (N == 0) = false := by simp; omega
      have HCj := hide (l12Conjugation_no w1 b off n c b1 o1 c1 f (some ⟨bt', ot', none⟩) c' ts (V.all hB1) ((hT.below hB1).more hB1.size) hn hp hc hf N HW0.out H00.out k0 k1 k2 HK0.out)
      clear hB hb1 HWh
      go_wp2_with fail
      refine HCj.out.mono ?_
      rintro e w2 ⟨rfl, hb2⟩
      clear r0 r1
      go_wp2_with fail
      go_ret
      exact ⟨rfl, hbW.trans ((hB1.trans (hb2.mono hB1.size)).mono hbW.size)⟩
end Go.Proofs.Ytlhfjfpgoaiijaa
