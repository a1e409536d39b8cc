
/- The walks of the closures that fill tables and count them. -/
import Derived.Test.YteobaodabjdcaaaCP5
import Derived.Test.YteobaodabjdcaaaCP3
import Derived.Test.YteobaodabjdcaaaRI5
import Derived.Laws.EntriesVeiled
import Derived.Deep.DeepCutAuto
namespace Go.Proofs.Yteobaodabjdcaaa
open Go Go.RowKit
set_option linter.unusedSimpArgs false
set_option linter.unusedVariables false
set_option maxRecDepth 100000
/-! ### plain -/
/-- The tables agree outside some places. -/
def Agr (l : List T3) (f g : F3) : Prop := ∀ a b c, (a, b, c) ∉ l → f a b c = g a b c
def updL (o : List T3) (v : Int) (f : F3) : F3 := o.foldl (fun g t => upd g t.1 t.2.1 t.2.2 v) f
theorem updL_at : ∀ (o : List T3) (v : Int) (f : F3) (a b c : Nat), updL o v f a b c = if (a, b, c) ∈ o then v else f a b c
  | [], v, f, a, b, c => by simp [updL]
  | t :: o, v, f, a, b, c => by
    have h := updL_at o v (upd f t.1 t.2.1 t.2.2 v) a b c
    have e : updL (t :: o) v f = updL o v (upd f t.1 t.2.1 t.2.2 v) := rfl
    rw [e, h]
    by_cases h1 : (a, b, c) ∈ o
    · rw [if_pos h1, if_pos (List.mem_cons_of_mem _ h1)]
    · rw [if_neg h1]
      by_cases h2 : (a, b, c) = t
      · rw [if_pos (by rw [h2]; exact List.mem_cons_self)]
        subst h2
        simp [upd]
      · rw [if_neg (by rw [List.mem_cons]; rintro (h | h); exact h2 h; exact h1 h)]
        unfold upd
        rw [if_neg]
        rintro ⟨e1, e2, e3⟩
        exact h2 (by rw [e1, e2, e3])
theorem updL_snoc (o : List T3) (v : Int) (f : F3) (t : T3) : updL (o ++ [t]) v f = upd (updL o v f) t.1 t.2.1 t.2.2 v := by unfold updL; rw [List.foldl_append]; rfl
theorem agr_nil {f g : F3} (h : Agr [] f g) : f = g := by funext a b c; exact h a b c (by simp)
theorem Agr.refl (l : List T3) (f : F3) : Agr l f f := fun _ _ _ _ => rfl
theorem Agr.trans {l : List T3} {f g h : F3} (a : Agr l f g) (b : Agr l g h) : Agr l f h := fun x y z hn => (a x y z hn).trans (b x y z hn)
theorem Agr.mono {l l' : List T3} {f g : F3} (h : Agr l f g) (hs : ∀ t ∈ l, t ∈ l') : Agr l' f g := fun x y z hn => h x y z fun hm => hn (hs _ hm)
theorem agr_updL (o l : List T3) (v : Int) (f g : F3) (h : Agr (o ++ l) f g) : Agr l (updL o v f) (updL o v g) := by
  intro a b c hn
  rw [updL_at, updL_at]
  by_cases h1 : (a, b, c) ∈ o
  · rw [if_pos h1, if_pos h1]
  · rw [if_neg h1, if_neg h1]
    exact h a b c (by rw [List.mem_append]; rintro (h | h); exact h1 h; exact hn h)
theorem agr_of_updL (o l : List T3) (v : Int) (f : F3) : Agr (o ++ l) f (updL o v f) := by
  intro a b c hn
  rw [updL_at, if_neg (fun h => hn (List.mem_append_left _ h))]
theorem fillC_agr (n m : Nat) : ∀ (os : List (List T3)) (f g : F3), Agr os.flatten f g → fillC n m os f = fillC n m os g
  | [], f, g, h => by rw [agr_nil h]
  | o :: os, f, g, h => by
    unfold fillC
    refine sumN_congr fun v hv => ?_
    exact fillC_agr n m os _ _ (agr_updL o os.flatten v f g (by simpa using h))
theorem fillC_le (n m : Nat) : ∀ (os : List (List T3)) (f : F3), fillC n m os f ≤ (m + 1) ^ os.length
  | [], f => by unfold fillC okR3; split <;> simp
  | o :: os, f => by
    unfold fillC
    refine Nat.le_trans (sumN_le (c := (m + 1) ^ os.length) fun v _ => fillC_le n m os _) ?_
    rw [List.length_cons, Nat.pow_succ, Nat.mul_comm]; exact Nat.le_refl _
/-! ### the visitor -/
theorem visit_any (w : World) (v : Value) (X k : Nat) (hX : Blk w X 2 #[.int .i64 k]) (hk : k ≤ 1000000) :
    Calls Try.prog 10 #[.agg #[v], .pointer (some ⟨X, 0, none⟩)] w (fun e w' => e = .returned (.tuple #[]) ∧ Blk w' X 2 #[.int .i64 (k + 1 : Nat)] ∧ Wr w w' (fun b => b = X)) := by
  have hXl := hX.lt
  have hb := (Below.refl w.heap.size w).alloc (Nat.le_refl _) (.cells #[v] 31)
  have bX := hX.all hb
  have q0 := bX.cell 0
  have q1 := bX.frozen 0
  go_enter Try.func10, Try.ntmps10
  go_wp2_with fail
  refine bodyPost_end (v := .tuple #[]) (by simp [results, Try.results10, go_sem]) rfl ?_
  have b2 := (hX.store 0 (.int .i64 ((k : Int) + 1))).alloc (.cells #[v] 31)
  refine ⟨rfl, by rw [show ((k + 1 : Nat) : Int) = (k : Int) + 1 by omega]; exact b2, ?_⟩
  have h1 : Wr w (w.setCell ⟨X, 0, none⟩ (.int .i64 ((k : Int) + 1))) (fun b => b = X) := ⟨rfl, rfl, rfl, by simp [World.setCell], fun b _ hn => Below.heap_setCell w ⟨X, 0, none⟩ _ b (fun e => hn e)⟩
  exact h1.trans (Wr.of_below ((Below.refl _ _).alloc (Nat.le_refl _) _))
/-! ### the filling -/
/-- What stays while tables are filled: the orbits, the closures, the bound. -/
structure FiC where
  W0 : World
  n : Nat
  m : Nat
  os : List (List T3)
  FP : Nat → Prop
  aO : Nat
  aR : Nat
  aV : Nat
  aM : Nat
  aF : Nat
  X : Nat
  bo : Nat
  co : Nat
  vT : Value
def FiC.W (C : FiC) (b : Nat) : Prop := C.FP b ∨ b = C.X
def FiC.cl (C : FiC) : Value := .func (.func 23) #[] #[.pointer (some ⟨C.aO, 0, none⟩), .pointer (some ⟨C.aR, 0, none⟩), .pointer (some ⟨C.aV, 0, none⟩), .pointer (some ⟨C.aM, 0, none⟩), .pointer (some ⟨C.aF, 0, none⟩)]
structure FiOk (C : FiC) : Prop where
  n1 : 1 ≤ C.n
  n3 : C.n ≤ 3
  m4 : C.m ≤ 4
  bO : Blk C.W0 C.aO 47 #[.slice (some ⟨C.bo, 0, none⟩) C.os.length C.co]
  bR : Blk C.W0 C.aR 31 #[C.vT]
  bV : Blk C.W0 C.aV 32 #[.func (.func 10) #[] #[.pointer (some ⟨C.X, 0, none⟩)]]
  bM : Blk C.W0 C.aM 2 #[.int .i64 C.m]
  bF : Blk C.W0 C.aF 52 #[C.cl]
  nO : ¬ C.W C.aO
  nR : ¬ C.W C.aR
  nV : ¬ C.W C.aV
  nM : ¬ C.W C.aM
  nF : ¬ C.W C.aF
  nX : ¬ C.FP C.X
  cap : C.os.length ≤ C.co
  no : C.bo < C.W0.heap.size ∧ ¬ C.W C.bo
  rows : ∀ k o, C.os[k]? = some o → ∃ b c, C.W0.cell? ⟨C.bo, k, none⟩ = some (.slice (some ⟨b, 0, none⟩) o.length c) ∧ SlT C.W0 C.W0.heap.size b o.length c o ∧ ¬ C.W b
  rng : ∀ o ∈ C.os, o.length ≤ 8 ∧ ∀ t ∈ o, t.1 < C.n ∧ t.2.1 < C.n ∧ t.2.2 < C.n
  many : C.os.length ≤ 8
/-- What stands: the table and the count. -/
structure FiI (C : FiC) (f : F3) (cnt : Nat) (W : World) : Prop where
  wr : Wr C.W0 W C.W
  tb : E3 W C.vT (cub C.n f) C.FP
  bX : Blk W C.X 2 #[.int .i64 cnt]
theorem Wr.cell {w w' : World} {fp : Nat → Prop} (h : Wr w w' fp) {p : Addr} (hp : p.block < w.heap.size) (hf : ¬ fp p.block) : w'.cell? p = w.cell? p := by
  simp only [World.cell?]; rw [h.block p.block hp hf]
theorem SlT.wr {w w' : World} {fp : Nat → Prop} {B b n c : Nat} {l : List T3} (h : SlT w B b n c l) (hw : Wr w w' fp) (hB : B ≤ w.heap.size) (hb : ¬ fp b) : SlT w' B b n c l :=
  ⟨h.len, h.cap, h.lt, fun k t ht => by
    obtain ⟨h1, h2, h3⟩ := h.at_ k t ht
    have hl : b < w.heap.size := Nat.lt_of_lt_of_le h.lt hB
    exact ⟨(hw.cell (p := ⟨b, _, none⟩) hl hb).trans h1, (hw.cell (p := ⟨b, _, none⟩) hl hb).trans h2, (hw.cell (p := ⟨b, _, none⟩) hl hb).trans h3⟩⟩
theorem FiI.below {C : FiC} {f : F3} {cnt : Nat} {W W' : World} (h : FiI C f cnt W) (hb : Below W.heap.size W W') : FiI C f cnt W' := ⟨h.wr.trans (Wr.of_below hb), h.tb.below hb, h.bX.all hb⟩
/-- What fill leaves. -/
def FiP (C : FiC) (l : List T3) (f : F3) (cnt : Nat) (e : Ending) (W' : World) : Prop := e = .returned (.tuple #[]) ∧ ∃ f', FiI C f' cnt W' ∧ Agr l f f' ∧ ∀ a b c, 0 ≤ f' a b c ∧ f' a b c ≤ 1000
end Go.Proofs.Yteobaodabjdcaaa
