
/- The walks of the small functions of package laws on metrics. -/
import Derived.Test.YtneflhachjlmkaaW1
namespace Go.Proofs.Ytneflhachjlmkaa
open Go Go.RowKit

theorem eqMetric_any (w : World) (B : Nat) (A1 A2 A3 A4 : Option Addr) (n1 n2 n3 n4 c1 c2 c3 c4 : Nat) (q q' : Int) (os os' vs vs' : List Int)
    (h1 : Sl w B A1 n1 c1 os) (h2 : Sl w B A2 n2 c2 vs) (h3 : Sl w B A3 n3 c3 os') (h4 : Sl w B A4 n4 c4 vs') (hB : B ≤ w.heap.size) (hn1 : n1 ≤ 1048576) (hn2 : n2 ≤ 1048576) :
    Calls Try.prog 19 #[.agg #[.slice A1 n1 c1, .int .i64 q, .slice A2 n2 c2], .agg #[.slice A3 n3 c3, .int .i64 q', .slice A4 n4 c4]] w (Re w (.bool (os == os' && (q == q' && vs == vs')))) := by
  obtain ⟨b1, hb1⟩ : ∃ b, (os == os') = b := ⟨_, rfl⟩
  obtain ⟨b2, hb2⟩ : ∃ b, (q == q') = b := ⟨_, rfl⟩
  obtain ⟨b3, hb3⟩ : ∃ b, (vs == vs') = b := ⟨_, rfl⟩
  rw [hb1, hb2, hb3]
  have H1 := hide hb1
  have H3 := hide hb3
  have hq : (q != q') = !b2 := by simp [bne, hb2]
  clear hb1 hb2 hb3
  cases b1
  · go_enter Try.func19, Try.ntmps19
    go_wp2_with fail
    refine (eqInt64S_any _ B B _ _ _ _ _ _ _ _ (by repeat (first | assumption | apply Sl.drewN | apply Sl.drew | apply Sl.alloc | apply Sl.setCell | omega | (focus (simp; done)) | (focus (simp; omega)))) (by repeat (first | assumption | apply Sl.drewN | apply Sl.drew | apply Sl.alloc | apply Sl.setCell | omega | (focus (simp; done)) | (focus (simp; omega)))) hn1).mono ?_
    rintro e w' ⟨rfl, m, rfl⟩
    rw [H1.out]
    go_wp2
    go_ret
    exact ⟨rfl, (by repeat (first | assumption | exact Below.refl _ _ | apply below_drewN | apply Below.drew | apply Below.alloc | apply Below.setCell | omega | (focus (simp; done)) | (focus (simp; omega))))⟩
  · cases b2
    · simp only [Bool.not_false] at hq
      go_enter Try.func19, Try.ntmps19
      go_wp2_with fail
      refine (eqInt64S_any _ B B _ _ _ _ _ _ _ _ (by repeat (first | assumption | apply Sl.drewN | apply Sl.drew | apply Sl.alloc | apply Sl.setCell | omega | (focus (simp; done)) | (focus (simp; omega)))) (by repeat (first | assumption | apply Sl.drewN | apply Sl.drew | apply Sl.alloc | apply Sl.setCell | omega | (focus (simp; done)) | (focus (simp; omega)))) hn1).mono ?_
      rintro e w' ⟨rfl, m, rfl⟩
      rw [H1.out]
      go_wp2
      go_ret
      exact ⟨rfl, (by repeat (first | assumption | exact Below.refl _ _ | apply below_drewN | apply Below.drew | apply Below.alloc | apply Below.setCell | omega | (focus (simp; done)) | (focus (simp; omega))))⟩
    · simp only [Bool.not_true] at hq
      cases b3
      all_goals
        go_enter Try.func19, Try.ntmps19
        go_wp2_with fail
        refine (eqInt64S_any _ B B _ _ _ _ _ _ _ _ (by repeat (first | assumption | apply Sl.drewN | apply Sl.drew | apply Sl.alloc | apply Sl.setCell | omega | (focus (simp; done)) | (focus (simp; omega)))) (by repeat (first | assumption | apply Sl.drewN | apply Sl.drew | apply Sl.alloc | apply Sl.setCell | omega | (focus (simp; done)) | (focus (simp; omega)))) hn1).mono ?_
        rintro e w' ⟨rfl, m, rfl⟩
        rw [H1.out]
        go_wp2_with fail
        refine (eqInt64S_any _ B B _ _ _ _ _ _ _ _ (by repeat (first | assumption | apply Sl.drewN | apply Sl.drew | apply Sl.alloc | apply Sl.setCell | omega | (focus (simp; done)) | (focus (simp; omega)))) (by repeat (first | assumption | apply Sl.drewN | apply Sl.drew | apply Sl.alloc | apply Sl.setCell | omega | (focus (simp; done)) | (focus (simp; omega)))) hn2).mono ?_
        rintro e w' ⟨rfl, m, rfl⟩
        rw [H3.out]
        go_wp2
        go_ret
        exact ⟨rfl, (by repeat (first | assumption | exact Below.refl _ _ | apply below_drewN | apply Below.drew | apply Below.alloc | apply Below.setCell | omega | (focus (simp; done)) | (focus (simp; omega))))⟩

/-- What heldMetric returns. -/
def heldM (k : Int) (os vs : List Int) : Int := if heldI k os < 0 then -1 else if heldI (heldI k os) vs < 0 then -1 else heldI (heldI k os) vs
theorem heldM_1 {k : Int} {os vs : List Int} (h : heldI k os < 0) : heldM k os vs = -1 := by unfold heldM; rw [if_pos h]
theorem heldM_2 {k : Int} {os vs : List Int} (h : 0 ≤ heldI k os) (h2 : heldI (heldI k os) vs < 0) : heldM k os vs = -1 := by unfold heldM; rw [if_neg (by omega), if_pos h2]
theorem heldM_3 {k : Int} {os vs : List Int} (h : 0 ≤ heldI k os) (h2 : 0 ≤ heldI (heldI k os) vs) : heldM k os vs = heldI (heldI k os) vs := by unfold heldM; rw [if_neg (by omega), if_neg (by omega)]
theorem heldI_le (xs : List Int) : ∀ k : Int, 0 ≤ k → heldI k xs ≤ k + xs.length := by
  induction xs with
  | nil => intro k _; simp [heldI]
  | cons x xs ih =>
    intro k hk
    unfold heldI
    split
    · have := ih (k + 1) (by omega); simp at this ⊢; omega
    · simp; omega
/-- The metric's two slices, which held os and vs, now hold k, k + 1, ..; whatever else lay before lies as it lay. -/
def MrkM (w : World) (B : Nat) (v1 v2 : Value) (os vs : List Int) (k : Int) (e : Ending) (w' : World) : Prop :=
  e = .returned (.int .i64 (k + os.length + vs.length)) ∧ Ow w' B v1 (marks k os.length) ∧ Ow w' B v2 (marks (k + os.length) vs.length) ∧
  w'.os = w.os ∧ w'.tape = w.tape ∧ w'.output = w.output ∧ w.heap.size ≤ w'.heap.size ∧ (∀ b, b < w.heap.size → v1.ownBlock ≠ some b → v2.ownBlock ≠ some b → w'.heap[b]? = w.heap[b]?)
section
variable {w w' : World} {B : Nat} {v1 v2 : Value} {os vs : List Int} {k : Int} {e : Ending}
theorem marks_rng (q : Int) (n : Nat) (h0 : 0 ≤ q) (h1 : q ≤ 1000000000) (hn : n ≤ 1048576) : ∀ x ∈ marks q n, i64ok x := by
  intro x hx
  simp only [marks, List.mem_map, List.mem_range] at hx
  obtain ⟨j, hj, rfl⟩ := hx
  exact ⟨by omega, by omega⟩
theorem MrkM.keep (h : MrkM w B v1 v2 os vs k e w') {C : Nat} (hC : C ≤ B) (hw : C ≤ w.heap.size) (h1 : Ow w B v1 os) (h2 : Ow w B v2 vs) : Below C w w' :=
  ⟨h.2.2.2.1, h.2.2.2.2.1, h.2.2.2.2.2.1, h.2.2.2.2.2.2.1, fun b hb => h.2.2.2.2.2.2.2 b (by omega) (fun e => by have := h1.lt _ e; omega) (fun e => by have := h2.lt _ e; omega)⟩
theorem MrkM.blk (h : MrkM w B v1 v2 os vs k e w') {g : Nat} {t : TypeId} {cs : Array Value} (hb : Blk w g t cs) (hne : t ≠ 2) (h1 : Ow w B v1 os) (h2 : Ow w B v2 vs) : Blk w' g t cs :=
  (h.2.2.2.2.2.2.2 g hb.lt (h1.blk_ne hb hne) (h2.blk_ne hb hne)).trans hb
end
theorem markMetric_any (w : World) (B : Nat) (v1 v2 : Value) (q k : Int) (os vs : List Int) (h1 : Ow w B v1 os) (h2 : Ow w B v2 vs) (hd : Apart v1 v2)
    (hn1 : os.length ≤ 1048576) (hn2 : vs.length ≤ 1048576) (hk0 : 0 ≤ k) (hk1 : k ≤ 100000000) :
    Calls Try.prog 20 #[.agg #[v1, .int .i64 q, v2], .int .i64 k] w (MrkM w B v1 v2 os vs k) := by
  have e1 : v1.ownBlock ≠ some w.heap.size := fun e => by have := h1.lt _ e; omega
  have e2 : v2.ownBlock ≠ some w.heap.size := fun e => by have := h2.lt _ e; omega
  go_enter Try.func20, Try.ntmps20
  go_wp2_with fail
  refine (markInt64S_any _ _ _ _ _ (h1.alloc _) (by omega) (by omega) (by omega)).mono ?_
  rintro e w1 ⟨rfl, ho1, hg1⟩
  have c2 : w1.cell? ⟨w.heap.size, 2, none⟩ = some v2 := by
    refine hg1.cell ?_ (fun e => e1 e.symm)
    simp [World.cell?_alloc_at]
  go_wp2_with fail
  have ho2 : Ow w1 B v2 vs := (h2.alloc _).far hg1 hd.symm
  refine (markInt64S_any _ _ _ _ _ ho2 (by omega) (by omega) (by omega)).mono ?_
  rintro e w2 ⟨rfl, ho3, hg2⟩
  go_wp2
  go_ret
  have hs1 := hg1.size
  have hs2 := hg2.size
  simp at hs1
  refine ⟨rfl, ?_, ho3, by rw [hg2.os, hg1.os]; rfl, by rw [hg2.tape, hg1.tape]; rfl, by rw [hg2.output, hg1.output]; rfl, by omega, fun b hb n1 n2 => ?_⟩
  · exact ho1.far hg2 hd
  · rw [hg2.block b (by omega) (fun e => n2 e.symm), hg1.block b (by simp; omega) (fun e => n1 e.symm)]
    exact Below.heap_alloc _ _ _ hb
end Go.Proofs.Ytneflhachjlmkaa
