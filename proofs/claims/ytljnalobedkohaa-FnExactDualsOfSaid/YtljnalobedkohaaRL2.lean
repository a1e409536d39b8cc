
/- The walks of DualsOf, RingFault, IsSelfDual of both sides. -/
import Derived.Test.YtljnalobedkohaaKR
namespace Go.Proofs.Ytljnalobedkohaa
open Go Go.RowKit
set_option linter.unusedSimpArgs false
set_option linter.unusedVariables false
set_option maxRecDepth 100000

noncomputable def rgC (t : Tb) : Int := if rgB t = true then 0 else 1
noncomputable def duC (t : Tb) : List Int := if rgB t = true then duL t t.length else []
noncomputable def fltC (t : Tb) : List Int := if cbB t = true then (flt t).getD [] else []
noncomputable def fltK (t : Tb) : Int := if cbB t = true then (if (flt t).isNone then 4 else 0) else 1
open Classical in
noncomputable def sdB (t : Tb) : Bool := rgB t && decide (∀ i, i < t.length → du t i = i)
theorem du_ok (t : Tb) (h : t.length ≤ 16) (k : Nat) : ∀ x ∈ duL t k, i64ok x := by
  intro x hx
  obtain ⟨i, _, rfl⟩ := List.mem_map.1 hx
  have := du_rng t i
  unfold i64ok
  omega
theorem duC_tot (t : Tb) (hs : t.length ≤ 1048576) : ints_tot (duC t) ≤ 1048576 := by
  unfold duC ints_tot
  split
  · rw [duL_length]; exact hs
  · simp
theorem fs_key {α : Type} {n : Nat} {f : Nat → Option α} {x : α} (hx : fs n f = some x) : ∃ k, k < n ∧ f k = some x := by
  obtain ⟨k, hk, hf⟩ := List.exists_of_findSome?_eq_some hx
  exact ⟨k, List.mem_range.1 hk, hf⟩
theorem flt_ok {t : Tb} (hl : t.length ≤ 16) {xs : List Int} (h : flt t = some xs) : xs.length ≤ 5 ∧ ∀ x ∈ xs, 0 ≤ x ∧ x ≤ 16 := by
  unfold flt at h
  split at h
  · rename_i x hx
    injection h with h; subst h
    obtain ⟨i, hi, h1⟩ := fs_key hx
    obtain ⟨k, hk, h2⟩ := fs_key h1
    unfold unitAt at h2
    split at h2 <;> simp at h2
    rw [← h2]; simp; omega
  · split at h
    · rename_i i hx
      injection h with h; rw [← h]
      obtain ⟨i, hi, h1⟩ := fs_key hx
      unfold dfAt at h1
      split at h1 <;> simp at h1
      simp; omega
    · split at h
      · rename_i x hx
        injection h with h; subst h
        obtain ⟨i, hi, h1⟩ := fs_key hx
        obtain ⟨k, hk, h2⟩ := fs_key h1
        obtain ⟨j, hj, h3⟩ := fs_key h2
        unfold turnAt at h3
        split at h3 <;> simp at h3
        rw [← h3]; simp; omega
      · obtain ⟨i, hi, h1⟩ := fs_key h
        obtain ⟨k, hk, h2⟩ := fs_key h1
        obtain ⟨j, hj, h3⟩ := fs_key h2
        obtain ⟨l, hl', h4⟩ := fs_key h3
        unfold brAt at h4
        split at h4 <;> simp at h4
        rw [← h4]; simp; omega
theorem fltC_tot (t : Tb) : ints_tot (fltC t) ≤ 1048576 := by
  unfold fltC ints_tot
  split
  · rename_i h
    cases hf : flt t with
    | none => simp
    | some xs => have := (flt_ok (cbB_iff.1 h).le hf).1; simp; omega
  · simp
set_option maxHeartbeats 2000000 in
theorem l03Duals_any (w : World) (c b off : Nat) (b1 o1 c1 : Nat → Nat) (b2 o2 c2 : Nat → Nat → Nat) (t : Tb) (B : Nat) (hV : View w B t.length b off b1 o1 c1 b2 o2 c2 (t3 t)) (hB : B ≤ w.heap.size) (hn16 : t.length ≤ 16) (hc : t.length ≤ c) :
    Calls Try.prog 31 #[.agg #[.slice (some ⟨b, off, none⟩) t.length c]] w (Mk w (duL t t.length)) := by
  go_enter Try.func31, Try.ntmps31
  go_wp2_with fail
  obtain ⟨W, hW⟩ : ∃ W, w.alloc (.cells #[.slice (some ⟨b, off, none⟩) t.length c] 27) = W := ⟨_, rfl⟩
  have hbW : Below w.heap.size w W := by rw [← hW]; exact (by repeat (first | assumption | exact Below.refl _ _ | apply below_drewN | apply Below.drew | apply Below.alloc | apply Below.setCell | omega | (focus (simp; done)) | (focus (simp; omega))))
  have hszW : w.heap.size < W.heap.size := by rw [← hW]; simp
  have hsW := hide (show W.heap.size = w.heap.size + 1 by rw [← hW]; simp)
  have q0 : W.cell? ⟨w.heap.size, 0, none⟩ = some (.slice (some ⟨b, off, none⟩) t.length c) := by rw [← hW]; exact (Blk.new _ _ _).cell 0
  rw [hW]
  clear hW
  have hbB := hbW.mono hB
  have hBW : B ≤ W.heap.size := by omega
  have HO := hide (fun W' (h : Below W.heap.size W W') i (hi : i < t.length) => l03Dual_any W' B t.length c b off b1 o1 c1 b2 o2 c2 t i (hV.le (hbB.trans (h.mono hBW))) rfl hn16 hi hc)
  have hO0 : Ow (W.alloc (.cells #[] 2)) W.heap.size (.slice (some ⟨w.heap.size + 1, 0, none⟩) 0 0) (duL t 0) := Ow.made' (xs := []) W #[] _ 0 hsW.out rfl (by rw [hsW.out]; exact Nat.le_refl _) rfl (by unfold maxLen; omega)
  have hB0 : Below W.heap.size W (W.alloc (.cells #[] 2)) := (Below.refl _ _).alloc (Nat.le_refl _) _
  go_wp2_with fail
  go_loopw [3, 4] (fun v i wr => ∃ (p : Nat) (vv : Value), p ≤ t.length ∧ i = .int .i64 p ∧ vv = v ∧ Ow wr W.heap.size vv (duL t p) ∧ Below W.heap.size W wr) (fun _ i _ => t.length - (intOf i).toNat)
  case atStart => exact ⟨0, _, by omega, rfl, rfl, hO0, hB0⟩
  case round =>
    clear hO0 hB0
    obtain ⟨p, vv, hp, rfl, rfl, hO, hBe⟩ := hrel
    have r0 := (hBe.cell (p := ⟨w.heap.size, 0, none⟩) hszW).trans q0
    by_cases hlp : p < t.length
    · have hcall := HO.out _ hBe p hlp
      obtain ⟨x, ex⟩ : ∃ x, du t p = x := ⟨_, rfl⟩
      have HL := hide (duL_length t p)
      rw [ex] at hcall
      have EX := hide ex
      have HC := hide hcall
      clear ex hcall
      go_wp2_with fail
      clear r0
      refine HC.out.mono ?_
      rintro e w1 ⟨rfl, d, rfl⟩
      have hO1 := hO.drewN d
      have hB1 := below_drewN hBe d
      clear hO
      obtain ⟨W1, hW1⟩ : ∃ W1, wr.drewN d = W1 := ⟨_, rfl⟩
      rw [hW1] at hO1 hB1 ⊢
      clear hW1
      have hmx : p ≤ 1048576 := by omega
      go_wp2_with (at_builtin; refine list_push _ rfl _ _ rfl W.heap.size vv _ rfl (hO1.alloc _) x W1.heap.size _ rfl (Blk.new _ _ _) (by rw [HL.out]; exact hmx) (by simp; exact Nat.le_trans hB1.size (Nat.le_succ _)) (by simp) ?_; intro g cap w4 hP4)
      go_roundw
      case rel => exact ⟨p + 1, _, by omega, by go_num, rfl, by rw [duL_succ, EX.out]; exact hP4.own, (hB1.alloc hB1.size _).trans (hP4.below (hO1.alloc _) (by simp; exact Nat.le_trans hB1.size (Nat.le_succ _)))⟩
      case measure => simp [intOf] <;> omega
    · obtain rfl : p = t.length := by omega
      go_wp2_with fail
      go_ret
      exact ⟨vv, rfl, hO.less (Nat.le_of_lt hszW), hbW.trans (hBe.mono (Nat.le_of_lt hszW))⟩
set_option maxHeartbeats 2000000 in
theorem specDuals_c (w : World) (v : Value) (t : Tb) (h : ring_R w w.heap.size v t) (hs : ring_Sh t) : Calls Try.prog 21 #[v] w (MkEC ints_E w (duC t) (rgC t)) := by
  obtain ⟨A, n, c, rfl, hl⟩ := h
  obtain rfl := hl.len
  cases hr : rgB t with
  | false =>
    have HC := hide (show duC t = [] by unfold duC; rw [hr]; rfl)
    have HK := hide (show rgC t = 1 by unfold rgC; rw [hr]; rfl)
    go_enter Try.func21, Try.ntmps21
    go_wp2_with fail
    obtain ⟨W, hW⟩ : ∃ W, w.alloc (.cells #[.slice A t.length c] 27) = W := ⟨_, rfl⟩
    have hbW : Below w.heap.size w W := by rw [← hW]; exact (by repeat (first | assumption | exact Below.refl _ _ | apply below_drewN | apply Below.drew | apply Below.alloc | apply Below.setCell | omega | (focus (simp; done)) | (focus (simp; omega))))
    have hszW : w.heap.size < W.heap.size := by rw [← hW]; simp
    have hsW := hide (show W.heap.size = w.heap.size + 1 by rw [← hW]; simp)
    have q0 : W.cell? ⟨w.heap.size, 0, none⟩ = some (.slice A t.length c) := by rw [← hW]; exact (Blk.new _ _ _).cell 0
    rw [hW]
    clear hW
    have HI := hide (l03Is_any W A t.length c t ((hl.below hbW).more (Nat.le_of_lt hszW)) hs)
    refine HI.out.mono ?_
    rw [hr]
    rintro e w1 ⟨rfl, hb1⟩
    clear hr
    go_wp2_with fail
    refine bodyPost_ret (v := .tuple #[.slice none 0 0, .int .i64 1]) (by simp [results, Try.results21, go_sem]) rfl ?_
    have hb := hbW.trans (hb1.mono (Nat.le_of_lt hszW))
    rw [HC.out, HK.out]
    exact ⟨_, rfl, E1.nil _ _ (fun _ h => h.2), hb⟩
  | true =>
    obtain ⟨hC, _⟩ := rgB_t hr
    obtain ⟨b, off, b1, o1, c1, b2, o2, c2, rfl, hV⟩ := view_of hl hC.pos hC.rows
    have hcc := hl.cap
    have HC := hide (show duC t = duL t t.length by unfold duC; rw [hr]; rfl)
    have HK := hide (show rgC t = 0 by unfold rgC; rw [hr]; rfl)
    go_enter Try.func21, Try.ntmps21
    go_wp2_with fail
    obtain ⟨W, hW⟩ : ∃ W, w.alloc (.cells #[.slice (some ⟨b, off, none⟩) t.length c] 27) = W := ⟨_, rfl⟩
    have hbW : Below w.heap.size w W := by rw [← hW]; exact (by repeat (first | assumption | exact Below.refl _ _ | apply below_drewN | apply Below.drew | apply Below.alloc | apply Below.setCell | omega | (focus (simp; done)) | (focus (simp; omega))))
    have hszW : w.heap.size < W.heap.size := by rw [← hW]; simp
    have hsW := hide (show W.heap.size = w.heap.size + 1 by rw [← hW]; simp)
    have q0 : W.cell? ⟨w.heap.size, 0, none⟩ = some (.slice (some ⟨b, off, none⟩) t.length c) := by rw [← hW]; exact (Blk.new _ _ _).cell 0
    rw [hW]
    clear hW
    have HI := hide (l03Is_any W _ t.length c t ((hl.below hbW).more (Nat.le_of_lt hszW)) hs)
    refine HI.out.mono ?_
    rw [hr]
    rintro e w1 ⟨rfl, hb1⟩
    clear hr
    have r0 := (hb1.cell (p := ⟨w.heap.size, 0, none⟩) hszW).trans q0
    have hb := hbW.trans (hb1.mono (Nat.le_of_lt hszW))
    have HD := hide (l03Duals_any w1 c b off b1 o1 c1 b2 o2 c2 t w.heap.size (hV.le hb) hb.size hC.le hcc)
    go_wp2_with fail
    clear r0
    refine HD.out.mono ?_
    rintro e w2 ⟨u, rfl, ho, hb2⟩
    obtain ⟨Au, cu, rfl⟩ := ho.val
    have hx := E1.of_ow ho (du_ok t hC.le _)
    have HX := hide hx
    obtain ⟨y, hy⟩ : ∃ y, duL t t.length = y := ⟨_, rfl⟩
    rw [hy] at HX HC ⊢
    clear hy hx ho HD
    go_wp2_with fail
    refine bodyPost_ret (v := .tuple #[.slice Au y.length cu, .int .i64 0]) (by simp [results, Try.results21, go_sem]) rfl ?_
    have hb3 := hb.trans (hb2.mono hb.size)
    rw [HC.out, HK.out]
    exact ⟨_, rfl, HX.out.mono (fun b h => ⟨Nat.le_trans hb.size h.1, h.2⟩) (fun _ h => h.2), hb3⟩

theorem MkI.blk {w w' : World} {xs : List Int} {e : Ending} (h : MkI w xs e w') : ∃ g cap cs, e = .returned (.slice (some ⟨g, 0, none⟩) xs.length cap) ∧ Blk w' g 3 cs ∧ (∀ (j : Nat) (x : Int), xs[j]? = some x → cs[j]? = some (Value.int .i64 x)) ∧ w.heap.size ≤ g ∧ Below w.heap.size w w' := by
  obtain ⟨g, cap, rfl, ho, hb⟩ := h
  rcases ho.2 with ⟨h, _⟩ | ⟨g', cap', cur, hv, hg, hh, hn, hm, hs, hx⟩
  · cases h
  · injection hv with h1 h2 h3
    injection h1 with h1
    injection h1 with h1 _ _
    subst h1
    refine ⟨g, cap, cur, rfl, hh, fun j x hj => ?_, hg, hb⟩
    have hjl := get_lt hj
    have h5 : (cur.toList.take ((xs.map (Value.int .i64)).length * 1))[j]? = (xs.map (Value.int .i64))[j]? := by rw [hx]
    rw [List.getElem?_take, if_pos (by simp; omega), List.getElem?_map, hj] at h5
    simpa using h5
set_option maxHeartbeats 4000000 in
theorem implDuals_c (w : World) (v : Value) (t : Tb) (h : ring_R w w.heap.size v t) (hs : ring_Sh t) : Calls Try.prog 22 #[v] w (MkEC ints_E w (duC t) (rgC t)) := by
  obtain ⟨A, n, c, rfl, hl⟩ := h
  obtain rfl := hl.len
  cases hr : rgB t with
  | false =>
    have HC := hide (show duC t = [] by unfold duC; rw [hr]; rfl)
    have HK := hide (show rgC t = 1 by unfold rgC; rw [hr]; rfl)
    go_enter Try.func22, Try.ntmps22
    go_wp2_with fail
    obtain ⟨W, hW⟩ : ∃ W, w.alloc (.cells #[.slice A t.length c] 27) = W := ⟨_, rfl⟩
    have hbW : Below w.heap.size w W := by rw [← hW]; exact (by repeat (first | assumption | exact Below.refl _ _ | apply below_drewN | apply Below.drew | apply Below.alloc | apply Below.setCell | omega | (focus (simp; done)) | (focus (simp; omega))))
    have hszW : w.heap.size < W.heap.size := by rw [← hW]; simp
    have hsW := hide (show W.heap.size = w.heap.size + 1 by rw [← hW]; simp)
    have q0 : W.cell? ⟨w.heap.size, 0, none⟩ = some (.slice A t.length c) := by rw [← hW]; exact (Blk.new _ _ _).cell 0
    rw [hW]
    clear hW
    have HI := hide (implIsRing_any W A t.length c t ((hl.below hbW).more (Nat.le_of_lt hszW)) hs)
    refine HI.out.mono ?_
    rw [hr]
    rintro e w1 ⟨rfl, hb1⟩
    clear hr
    go_wp2_with fail
    refine bodyPost_ret (v := .tuple #[.slice none 0 0, .int .i64 1]) (by simp [results, Try.results22, go_sem]) rfl ?_
    have hb := hbW.trans (hb1.mono (Nat.le_of_lt hszW))
    rw [HC.out, HK.out]
    exact ⟨_, rfl, E1.nil _ _ (fun _ h => h.2), hb⟩
  | true =>
    obtain ⟨hC, _⟩ := rgB_t hr
    obtain ⟨b, off, b1, o1, c1, b2, o2, c2, rfl, hV⟩ := view_of hl hC.pos hC.rows
    have hcc := hl.cap
    have hn16 := hC.le
    have hn1 := hC.pos
    have HC := hide (show duC t = duL t t.length by unfold duC; rw [hr]; rfl)
    have HK := hide (show rgC t = 0 by unfold rgC; rw [hr]; rfl)
    go_enter Try.func22, Try.ntmps22
    go_wp2_with fail
    obtain ⟨W, hW⟩ : ∃ W, w.alloc (.cells #[.slice (some ⟨b, off, none⟩) t.length c] 27) = W := ⟨_, rfl⟩
    have hbW : Below w.heap.size w W := by rw [← hW]; exact (by repeat (first | assumption | exact Below.refl _ _ | apply below_drewN | apply Below.drew | apply Below.alloc | apply Below.setCell | omega | (focus (simp; done)) | (focus (simp; omega))))
    have hszW : w.heap.size < W.heap.size := by rw [← hW]; simp
    have hsW := hide (show W.heap.size = w.heap.size + 1 by rw [← hW]; simp)
    have q0 : W.cell? ⟨w.heap.size, 0, none⟩ = some (.slice (some ⟨b, off, none⟩) t.length c) := by rw [← hW]; exact (Blk.new _ _ _).cell 0
    rw [hW]
    clear hW
    have HI := hide (implIsRing_any W _ t.length c t ((hl.below hbW).more (Nat.le_of_lt hszW)) hs)
    refine HI.out.mono ?_
    rw [hr]
    rintro e w1 ⟨rfl, hb1⟩
    clear hr
    have r0 := (hb1.cell (p := ⟨w.heap.size, 0, none⟩) hszW).trans q0
    have hb := hbW.trans (hb1.mono (Nat.le_of_lt hszW))
    have hz1 := Nat.lt_of_lt_of_le hszW hb1.size
    go_wp2_with fail
    clear r0 hz1
    obtain ⟨w2, hw2⟩ : ∃ w2, w1.alloc (.cells #[] 2) = w2 := ⟨_, rfl⟩
    have hb2 : Below w1.heap.size w1 w2 := by rw [← hw2]; exact (Below.refl _ _).alloc (Nat.le_refl _) _
    have hO0 : Ow w2 w.heap.size (.slice (some ⟨w1.heap.size, 0, none⟩) 0 0) (duL t 0) := by rw [← hw2]; exact Ow.made' (xs := []) w1 #[] _ 0 rfl rfl hb.size rfl (by unfold maxLen; omega)
    have hbb := hb.trans (hb2.mono hb.size)
    rw [hw2]
    clear hw2
    refine (duals_any w2 w.heap.size t.length c b off b1 o1 c1 b2 o2 c2 t (hV.le hbb) hbb.size rfl hn16 hn1 hcc).mono ?_
    intro e w3 hm
    obtain ⟨g, cap, cs, rfl, hB3, hcs, hg, hb3⟩ := hm.blk
    clear hm
    replace hO0 := hO0.below hb3
    have hb4 := hbb.trans (hb3.mono hbb.size)
    have hL := duL_length t t.length
    rw [hL]
    have HCS := hide (fun j (hj : j < t.length) => hcs j (du t j) (by simp [duL, hj]))
    clear hcs hL
    go_wp2_with fail
    go_loopw [4, 14] (fun v i wr => ∃ (p : Nat) (vv : Value), p ≤ t.length ∧ i = .int .i64 p ∧ vv = v ∧ Ow wr w.heap.size vv (duL t p) ∧ Below w.heap.size w wr ∧ Blk wr g 3 cs) (fun _ i _ => t.length - (intOf i).toNat)
    case atStart => exact ⟨0, _, by omega, rfl, rfl, hO0, hb4, hB3⟩
    case round =>
      clear hO0 hb4 hB3
      obtain ⟨p, vv, hp, rfl, rfl, hO, hBe, hbk⟩ := hrel
      by_cases hlp : p < t.length
      · have a1 := (hbk.cell p).trans (HCS.out p hlp)
        obtain ⟨x, ex⟩ : ∃ x, du t p = x := ⟨_, rfl⟩
        rw [ex] at a1
        have EX := hide ex
        have HL := hide (duL_length t p)
        have hmx : p ≤ 1048576 := by omega
        have hxr := du_rng t p
        rw [ex] at hxr
        have hwx : IntKind.i64.wrap x = x := wr64 _ ⟨by omega, by omega⟩
        clear ex hxr
        go_wp2_with (at_builtin; refine list_push _ rfl _ _ rfl w.heap.size vv _ rfl (hO.alloc _) x wr.heap.size _ rfl (Blk.new _ _ _) (by rw [HL.out]; exact hmx) (by simp; exact Nat.le_trans hBe.size (Nat.le_succ _)) (by simp) ?_; intro g' cap' w4 hP4)
        go_roundw
        case rel => exact ⟨p + 1, _, by omega, by go_num, rfl, by rw [duL_succ, EX.out]; exact hP4.own, (hBe.alloc hBe.size _).trans (hP4.below (hO.alloc _) (by simp; exact Nat.le_trans hBe.size (Nat.le_succ _))), hP4.blk (hO.alloc _) (hbk.alloc _) (by decide)⟩
        case measure => simp [intOf] <;> omega
      · obtain rfl : p = t.length := by omega
        obtain ⟨Au, cu, rfl⟩ := hO.val
        have hx := E1.of_ow hO (du_ok t hC.le _)
        have HX := hide hx
        obtain ⟨y, hy⟩ : ∃ y, duL t t.length = y := ⟨_, rfl⟩
        rw [hy] at HX HC ⊢
        clear hy hx hO
        go_wp2_with fail
        refine bodyPost_ret (v := .tuple #[.slice Au y.length cu, .int .i64 0]) (by simp [results, Try.results22, go_sem]) rfl ?_
        rw [HC.out, HK.out]
        exact ⟨_, rfl, HX.out.mono (fun b h => h) (fun _ h => h.2), hBe⟩
theorem fltC_0 {t : Tb} (h : cbB t = false) : fltC t = [] ∧ fltK t = 1 := by unfold fltC fltK; rw [h]; exact ⟨rfl, rfl⟩
theorem fltC_1 {t : Tb} (h : cbB t = true) (hf : flt t = none) : fltC t = [] ∧ fltK t = 4 := by unfold fltC fltK; rw [h, hf]; exact ⟨rfl, rfl⟩
theorem fltC_2 {t : Tb} {xs : List Int} (h : cbB t = true) (hf : flt t = some xs) : fltC t = xs ∧ fltK t = 0 := by unfold fltC fltK; rw [h, hf]; exact ⟨rfl, rfl⟩
set_option maxHeartbeats 4000000 in
theorem specFault_c (w : World) (v : Value) (t : Tb) (h : ring_R w w.heap.size v t) (hs : ring_Sh t) : Calls Try.prog 15 #[v] w (MkEC ints_E w (fltC t) (fltK t)) := by
  obtain ⟨A, n, c, rfl, hl⟩ := h
  obtain rfl := hl.len
  have hq := fun W A n c => Lib.run_eql_slice_nil (P := Try.prog) W 33 _ A n c 0 0 Try.underlying33
  cases hr : cbB t with
  | false =>
    have HC := hide (fltC_0 hr)
    go_enter Try.func15, Try.ntmps15
    go_wp2_with fail
    obtain ⟨W, hW⟩ : ∃ W, w.alloc (.cells #[.slice A t.length c] 27) = W := ⟨_, rfl⟩
    have hbW : Below w.heap.size w W := by rw [← hW]; exact (by repeat (first | assumption | exact Below.refl _ _ | apply below_drewN | apply Below.drew | apply Below.alloc | apply Below.setCell | omega | (focus (simp; done)) | (focus (simp; omega))))
    have hszW : w.heap.size < W.heap.size := by rw [← hW]; simp
    have hsW := hide (show W.heap.size = w.heap.size + 1 by rw [← hW]; simp)
    have q0 : W.cell? ⟨w.heap.size, 0, none⟩ = some (.slice A t.length c) := by rw [← hW]; exact (Blk.new _ _ _).cell 0
    rw [hW]
    clear hW
    have HI := hide ((l03Cube_any W w.heap.size _ t.length c t (hl.below hbW) hs.1 hs.2).mono fun _ _ h => Qt.re h)
    refine HI.out.mono ?_
    rw [hr]
    rintro e w1 ⟨rfl, hb1⟩
    clear hr
    go_wp2_with fail
    refine bodyPost_ret (v := .tuple #[.slice none 0 0, .int .i64 1]) (by simp [results, Try.results15, go_sem]) rfl ?_
    have hb := hbW.trans (hb1.mono (Nat.le_of_lt hszW))
    rw [HC.out.1, HC.out.2]
    exact ⟨_, rfl, E1.nil _ _ (fun _ h => h.2), hb⟩
  | true =>
    have hC := cbB_iff.1 hr
    obtain ⟨b, off, b1, o1, c1, b2, o2, c2, rfl, hV⟩ := view_of hl hC.pos hC.rows
    have hcc := hl.cap
    have HR := hide hr
    go_enter Try.func15, Try.ntmps15
    go_wp2_with fail
    obtain ⟨W, hW⟩ : ∃ W, w.alloc (.cells #[.slice (some ⟨b, off, none⟩) t.length c] 27) = W := ⟨_, rfl⟩
    have hbW : Below w.heap.size w W := by rw [← hW]; exact (by repeat (first | assumption | exact Below.refl _ _ | apply below_drewN | apply Below.drew | apply Below.alloc | apply Below.setCell | omega | (focus (simp; done)) | (focus (simp; omega))))
    have hszW : w.heap.size < W.heap.size := by rw [← hW]; simp
    have hsW := hide (show W.heap.size = w.heap.size + 1 by rw [← hW]; simp)
    have q0 : W.cell? ⟨w.heap.size, 0, none⟩ = some (.slice (some ⟨b, off, none⟩) t.length c) := by rw [← hW]; exact (Blk.new _ _ _).cell 0
    rw [hW]
    clear hW
    have A : Option Addr := some ⟨b, off, none⟩
    have HI := hide ((l03Cube_any W w.heap.size _ t.length c t (hl.below hbW) hs.1 hs.2).mono fun _ _ h => Qt.re h)
    refine HI.out.mono ?_
    rw [hr]
    rintro e w1 ⟨rfl, hb1⟩
    clear hr
    have r0 := (hb1.cell (p := ⟨w.heap.size, 0, none⟩) hszW).trans q0
    have hb := hbW.trans (hb1.mono (Nat.le_of_lt hszW))
    have HD := hide (l03Fault_any w1 t.length c b off b1 o1 c1 b2 o2 c2 t (hV.keep hb hb.size) hC rfl hcc)
    go_wp2_with fail
    clear r0
    refine HD.out.mono ?_
    intro e w2 hm
    cases hf : flt t with
    | none =>
      have HC := hide (fltC_1 HR.out hf)
      rw [hf] at hm
      obtain ⟨rfl, hb2⟩ := hm.out_none
      clear hm hf HD
      go_wp2_with fail
      refine bodyPost_ret (v := .tuple #[.slice none 0 0, .int .i64 4]) (by simp [results, Try.results15, go_sem]) rfl ?_
      rw [HC.out.1, HC.out.2]
      exact ⟨_, rfl, E1.nil _ _ (fun _ h => h.2), hb.trans (hb2.mono hb.size)⟩
    | some xs =>
      have HC := hide (fltC_2 HR.out hf)
      have hne := flt_len hf
      rw [hf] at hm
      obtain ⟨g, cap, rfl, ho, hb2⟩ := hm.out_some
      have hlz : ((xs.length : Int) == 0) = false := by
        have : xs.length ≠ 0 := fun h => hne (List.eq_nil_of_length_eq_zero h)
        simp; omega
      have HX := hide (E1.of_ow ho (fun x hx => by have := (flt_ok hC.le hf).2 x hx; unfold i64ok; omega))
      clear hm hf HD ho hne
      go_wp2_with fail
      refine bodyPost_ret (v := .tuple #[.slice (some ⟨g, 0, none⟩) xs.length cap, .int .i64 0]) (by simp [results, Try.results15, go_sem]) rfl ?_
      rw [HC.out.1, HC.out.2]
      exact ⟨_, rfl, HX.out.mono (fun b h => ⟨Nat.le_trans hb.size h.1, h.2⟩) (fun _ h => h.2), hb.trans (hb2.mono hb.size)⟩
set_option maxHeartbeats 4000000 in
theorem implFault_c (w : World) (v : Value) (t : Tb) (h : ring_R w w.heap.size v t) (hs : ring_Sh t) : Calls Try.prog 16 #[v] w (MkEC ints_E w (fltC t) (fltK t)) := by
  obtain ⟨A, n, c, rfl, hl⟩ := h
  obtain rfl := hl.len
  have hq := fun W A n c => Lib.run_eql_slice_nil (P := Try.prog) W 33 _ A n c 0 0 Try.underlying33
  cases hr : cbB t with
  | false =>
    have HC := hide (fltC_0 hr)
    go_enter Try.func16, Try.ntmps16
    go_wp2_with fail
    obtain ⟨W, hW⟩ : ∃ W, w.alloc (.cells #[.slice A t.length c] 27) = W := ⟨_, rfl⟩
    have hbW : Below w.heap.size w W := by rw [← hW]; exact (by repeat (first | assumption | exact Below.refl _ _ | apply below_drewN | apply Below.drew | apply Below.alloc | apply Below.setCell | omega | (focus (simp; done)) | (focus (simp; omega))))
    have hszW : w.heap.size < W.heap.size := by rw [← hW]; simp
    have hsW := hide (show W.heap.size = w.heap.size + 1 by rw [← hW]; simp)
    have q0 : W.cell? ⟨w.heap.size, 0, none⟩ = some (.slice A t.length c) := by rw [← hW]; exact (Blk.new _ _ _).cell 0
    rw [hW]
    clear hW
    have HI := hide (isCube_any W _ t.length c t ((hl.below hbW).more (Nat.le_of_lt hszW)) hs.1 hs.2)
    refine HI.out.mono ?_
    rw [hr]
    rintro e w1 ⟨rfl, hb1⟩
    clear hr
    go_wp2_with fail
    refine bodyPost_ret (v := .tuple #[.slice none 0 0, .int .i64 1]) (by simp [results, Try.results16, go_sem]) rfl ?_
    have hb := hbW.trans (hb1.mono (Nat.le_of_lt hszW))
    rw [HC.out.1, HC.out.2]
    exact ⟨_, rfl, E1.nil _ _ (fun _ h => h.2), hb⟩
  | true =>
    have hC := cbB_iff.1 hr
    obtain ⟨b, off, b1, o1, c1, b2, o2, c2, rfl, hV⟩ := view_of hl hC.pos hC.rows
    have hcc := hl.cap
    have HR := hide hr
    go_enter Try.func16, Try.ntmps16
    go_wp2_with fail
    obtain ⟨W, hW⟩ : ∃ W, w.alloc (.cells #[.slice (some ⟨b, off, none⟩) t.length c] 27) = W := ⟨_, rfl⟩
    have hbW : Below w.heap.size w W := by rw [← hW]; exact (by repeat (first | assumption | exact Below.refl _ _ | apply below_drewN | apply Below.drew | apply Below.alloc | apply Below.setCell | omega | (focus (simp; done)) | (focus (simp; omega))))
    have hszW : w.heap.size < W.heap.size := by rw [← hW]; simp
    have hsW := hide (show W.heap.size = w.heap.size + 1 by rw [← hW]; simp)
    have q0 : W.cell? ⟨w.heap.size, 0, none⟩ = some (.slice (some ⟨b, off, none⟩) t.length c) := by rw [← hW]; exact (Blk.new _ _ _).cell 0
    rw [hW]
    clear hW
    have A : Option Addr := some ⟨b, off, none⟩
    have HI := hide (isCube_any W _ t.length c t ((hl.below hbW).more (Nat.le_of_lt hszW)) hs.1 hs.2)
    refine HI.out.mono ?_
    rw [hr]
    rintro e w1 ⟨rfl, hb1⟩
    clear hr
    have r0 := (hb1.cell (p := ⟨w.heap.size, 0, none⟩) hszW).trans q0
    have hb := hbW.trans (hb1.mono (Nat.le_of_lt hszW))
    have HD := hide (fault_any w1 c b off b1 o1 c1 b2 o2 c2 t w.heap.size (hV.le hb) hb.size hC hcc)
    go_wp2_with fail
    clear r0
    refine HD.out.mono ?_
    intro e w2 hm
    cases hf : flt t with
    | none =>
      have HC := hide (fltC_1 HR.out hf)
      rw [hf] at hm
      obtain ⟨rfl, hb2⟩ := hm.out_none
      clear hm hf HD
      go_wp2_with fail
      refine bodyPost_ret (v := .tuple #[.slice none 0 0, .int .i64 4]) (by simp [results, Try.results16, go_sem]) rfl ?_
      rw [HC.out.1, HC.out.2]
      exact ⟨_, rfl, E1.nil _ _ (fun _ h => h.2), hb.trans (hb2.mono hb.size)⟩
    | some xs =>
      have HC := hide (fltC_2 HR.out hf)
      have hne := flt_len hf
      rw [hf] at hm
      obtain ⟨g, cap, rfl, ho, hb2⟩ := hm.out_some
      have hlz : ((xs.length : Int) == 0) = false := by
        have : xs.length ≠ 0 := fun h => hne (List.eq_nil_of_length_eq_zero h)
        simp; omega
      have HX := hide (E1.of_ow ho (fun x hx => by have := (flt_ok hC.le hf).2 x hx; unfold i64ok; omega))
      clear hm hf HD ho hne
      go_wp2_with fail
      refine bodyPost_ret (v := .tuple #[.slice (some ⟨g, 0, none⟩) xs.length cap, .int .i64 0]) (by simp [results, Try.results16, go_sem]) rfl ?_
      rw [HC.out.1, HC.out.2]
      exact ⟨_, rfl, HX.out.mono (fun b h => ⟨Nat.le_trans hb.size h.1, h.2⟩) (fun _ h => h.2), hb.trans (hb2.mono hb.size)⟩

theorem sdB_0 {t : Tb} (h : rgB t = false) : sdB t = false := by unfold sdB; rw [h]; rfl
theorem sdB_1 {t : Tb} {k : Nat} (hk : k < t.length) (h : du t k ≠ k) : sdB t = false := by
  unfold sdB; rw [Bool.and_eq_false_iff]; right; simp; exact ⟨k, hk, h⟩
theorem sdB_2 {t : Tb} (h : rgB t = true) (h2 : ∀ i, i < t.length → du t i = i) : sdB t = true := by unfold sdB; rw [h]; simpa using h2
set_option maxHeartbeats 4000000 in
theorem specSelf_c (w : World) (v : Value) (t : Tb) (h : ring_R w w.heap.size v t) (hs : ring_Sh t) : Calls Try.prog 13 #[v] w (Re w (.tuple #[.bool (sdB t), .int .i64 (rgC t)])) := by
  obtain ⟨A, n, c, rfl, hl⟩ := h
  obtain rfl := hl.len
  cases hr : rgB t with
  | false =>
    have HC := hide (sdB_0 hr)
    have HK := hide (show rgC t = 1 by unfold rgC; rw [hr]; rfl)
    go_enter Try.func13, Try.ntmps13
    go_wp2_with fail
    obtain ⟨W, hW⟩ : ∃ W, w.alloc (.cells #[.slice A t.length c] 27) = W := ⟨_, rfl⟩
    have hbW : Below w.heap.size w W := by rw [← hW]; exact (by repeat (first | assumption | exact Below.refl _ _ | apply below_drewN | apply Below.drew | apply Below.alloc | apply Below.setCell | omega | (focus (simp; done)) | (focus (simp; omega))))
    have hszW : w.heap.size < W.heap.size := by rw [← hW]; simp
    have hsW := hide (show W.heap.size = w.heap.size + 1 by rw [← hW]; simp)
    have q0 : W.cell? ⟨w.heap.size, 0, none⟩ = some (.slice A t.length c) := by rw [← hW]; exact (Blk.new _ _ _).cell 0
    rw [hW]
    clear hW
    have HI := hide (l03Is_any W A t.length c t ((hl.below hbW).more (Nat.le_of_lt hszW)) hs)
    refine HI.out.mono ?_
    rw [hr]
    rintro e w1 ⟨rfl, hb1⟩
    clear hr
    go_wp2_with fail
    refine bodyPost_ret (v := .tuple #[.bool false, .int .i64 1]) (by simp [results, Try.results13, go_sem]) rfl ?_
    rw [HC.out, HK.out]
    exact ⟨rfl, hbW.trans (hb1.mono (Nat.le_of_lt hszW))⟩
  | true =>
    obtain ⟨hC, _⟩ := rgB_t hr
    obtain ⟨b, off, b1, o1, c1, b2, o2, c2, rfl, hV⟩ := view_of hl hC.pos hC.rows
    have hcc := hl.cap
    have hn16 := hC.le
    have hn1 := hC.pos
    have HR := hide hr
    have HK := hide (show rgC t = 0 by unfold rgC; rw [hr]; rfl)
    go_enter Try.func13, Try.ntmps13
    go_wp2_with fail
    obtain ⟨W, hW⟩ : ∃ W, w.alloc (.cells #[.slice (some ⟨b, off, none⟩) t.length c] 27) = W := ⟨_, rfl⟩
    have hbW : Below w.heap.size w W := by rw [← hW]; exact (by repeat (first | assumption | exact Below.refl _ _ | apply below_drewN | apply Below.drew | apply Below.alloc | apply Below.setCell | omega | (focus (simp; done)) | (focus (simp; omega))))
    have hszW : w.heap.size < W.heap.size := by rw [← hW]; simp
    have hsW := hide (show W.heap.size = w.heap.size + 1 by rw [← hW]; simp)
    have q0 : W.cell? ⟨w.heap.size, 0, none⟩ = some (.slice (some ⟨b, off, none⟩) t.length c) := by rw [← hW]; exact (Blk.new _ _ _).cell 0
    rw [hW]
    clear hW
    have HI := hide (l03Is_any W _ t.length c t ((hl.below hbW).more (Nat.le_of_lt hszW)) hs)
    refine HI.out.mono ?_
    rw [hr]
    rintro e w1 ⟨rfl, hb1⟩
    clear hr
    have r0 := (hb1.cell (p := ⟨w.heap.size, 0, none⟩) hszW).trans q0
    have hb := hbW.trans (hb1.mono (Nat.le_of_lt hszW))
    go_wp2_with fail
    clear r0
    refine (l03Duals_any w1 c b off b1 o1 c1 b2 o2 c2 t w.heap.size (hV.le hb) hb.size hC.le hcc).mono ?_
    rintro e w3 ⟨u, rfl, ho, hb3⟩
    rcases ho.form with ⟨_, h0⟩ | ⟨g, cap, rfl, hg0, hg1, hcap⟩
    · have h1 := duL_length t t.length; rw [h0] at h1; simp only [List.length_nil] at h1; omega
    rw [duL_length] at ho hcap ⊢
    have HCS := hide (show ∀ j, j < t.length → w3.cell? ⟨g, j, none⟩ = some (.int .i64 (du t j)) from fun j hj => by have := ho.cell (duL_length t _).symm (k := j) hj; rwa [duL_gi hj] at this)
    clear ho hg0 hg1 hcap
    have hb4 := hb.trans (hb3.mono hb.size)
    go_wp2_with fail
    go_loopw [5] (fun i wr => ∃ p : Nat, p ≤ t.length ∧ i = .int .i64 p ∧ Hid (∀ j, j < p → du t j = j) ∧ ∃ d, w3.drewN d = wr) (fun i _ => t.length - (intOf i).toNat)
    case atStart => exact ⟨0, by omega, rfl, hide fun j hj => absurd hj (by omega), 0, rfl⟩
    case round =>
      obtain ⟨p, hp, rfl, HP, d, rfl⟩ := hrel
      by_cases hlp : p < t.length
      · have a1 := HCS.out p hlp
        obtain ⟨x, ex⟩ : ∃ x, du t p = x := ⟨_, rfl⟩
        rw [ex] at a1
        have EX := hide ex
        clear ex
        by_cases hx : x = p
        · have HE := hide (EX.out.trans hx)
          subst hx
          go_wp2_with fail
          go_roundw
          case rel => exact ⟨p + 1, by omega, by go_num, hide fun j hj => (by rcases Nat.lt_succ_iff_lt_or_eq.1 hj with h | rfl; exact HP.out j h; exact HE.out), d, rfl⟩
          case measure => simp [intOf] <;> omega
        · have HE := hide (sdB_1 hlp (by rw [EX.out]; exact hx))
          have hxb : (x != (p : Int)) = true := by simp [hx]
          have hxb2 : ((p : Int) != x) = true := by simp; omega
          clear hx
          go_wp2_with fail
          refine bodyPost_ret (v := .tuple #[.bool false, .int .i64 0]) (by simp [results, Try.results13, go_sem]) rfl ?_
          rw [HE.out, HK.out]
          exact ⟨rfl, below_drewN hb4 d⟩
      · obtain rfl : p = t.length := by omega
        have HE := hide (sdB_2 HR.out HP.out)
        go_wp2_with fail
        refine bodyPost_ret (v := .tuple #[.bool true, .int .i64 0]) (by simp [results, Try.results13, go_sem]) rfl ?_
        rw [HE.out, HK.out]
        exact ⟨rfl, below_drewN hb4 d⟩
set_option maxHeartbeats 4000000 in
theorem implSelf_c (w : World) (v : Value) (t : Tb) (h : ring_R w w.heap.size v t) (hs : ring_Sh t) : Calls Try.prog 14 #[v] w (Re w (.tuple #[.bool (sdB t), .int .i64 (rgC t)])) := by
  obtain ⟨A, n, c, rfl, hl⟩ := h
  obtain rfl := hl.len
  cases hr : rgB t with
  | false =>
    have HC := hide (sdB_0 hr)
    have HK := hide (show rgC t = 1 by unfold rgC; rw [hr]; rfl)
    go_enter Try.func14, Try.ntmps14
    go_wp2_with fail
    obtain ⟨W, hW⟩ : ∃ W, w.alloc (.cells #[.slice A t.length c] 27) = W := ⟨_, rfl⟩
    have hbW : Below w.heap.size w W := by rw [← hW]; exact (by repeat (first | assumption | exact Below.refl _ _ | apply below_drewN | apply Below.drew | apply Below.alloc | apply Below.setCell | omega | (focus (simp; done)) | (focus (simp; omega))))
    have hszW : w.heap.size < W.heap.size := by rw [← hW]; simp
    have hsW := hide (show W.heap.size = w.heap.size + 1 by rw [← hW]; simp)
    have q0 : W.cell? ⟨w.heap.size, 0, none⟩ = some (.slice A t.length c) := by rw [← hW]; exact (Blk.new _ _ _).cell 0
    rw [hW]
    clear hW
    have HI := hide (implIsRing_any W A t.length c t ((hl.below hbW).more (Nat.le_of_lt hszW)) hs)
    refine HI.out.mono ?_
    rw [hr]
    rintro e w1 ⟨rfl, hb1⟩
    clear hr
    go_wp2_with fail
    refine bodyPost_ret (v := .tuple #[.bool false, .int .i64 1]) (by simp [results, Try.results14, go_sem]) rfl ?_
    rw [HC.out, HK.out]
    exact ⟨rfl, hbW.trans (hb1.mono (Nat.le_of_lt hszW))⟩
  | true =>
    obtain ⟨hC, _⟩ := rgB_t hr
    obtain ⟨b, off, b1, o1, c1, b2, o2, c2, rfl, hV⟩ := view_of hl hC.pos hC.rows
    have hcc := hl.cap
    have hn16 := hC.le
    have hn1 := hC.pos
    have HR := hide hr
    have HK := hide (show rgC t = 0 by unfold rgC; rw [hr]; rfl)
    go_enter Try.func14, Try.ntmps14
    go_wp2_with fail
    obtain ⟨W, hW⟩ : ∃ W, w.alloc (.cells #[.slice (some ⟨b, off, none⟩) t.length c] 27) = W := ⟨_, rfl⟩
    have hbW : Below w.heap.size w W := by rw [← hW]; exact (by repeat (first | assumption | exact Below.refl _ _ | apply below_drewN | apply Below.drew | apply Below.alloc | apply Below.setCell | omega | (focus (simp; done)) | (focus (simp; omega))))
    have hszW : w.heap.size < W.heap.size := by rw [← hW]; simp
    have hsW := hide (show W.heap.size = w.heap.size + 1 by rw [← hW]; simp)
    have q0 : W.cell? ⟨w.heap.size, 0, none⟩ = some (.slice (some ⟨b, off, none⟩) t.length c) := by rw [← hW]; exact (Blk.new _ _ _).cell 0
    rw [hW]
    clear hW
    have HI := hide (implIsRing_any W _ t.length c t ((hl.below hbW).more (Nat.le_of_lt hszW)) hs)
    refine HI.out.mono ?_
    rw [hr]
    rintro e w1 ⟨rfl, hb1⟩
    clear hr
    have r0 := (hb1.cell (p := ⟨w.heap.size, 0, none⟩) hszW).trans q0
    have hb := hbW.trans (hb1.mono (Nat.le_of_lt hszW))
    go_wp2_with fail
    clear r0
    refine (duals_any w1 w.heap.size t.length c b off b1 o1 c1 b2 o2 c2 t (hV.le hb) hb.size rfl hn16 hn1 hcc).mono ?_
    intro e w3 hm
    obtain ⟨g, cap, cs, rfl, hB3, hcs, hg, hb3⟩ := hm.blk
    clear hm
    have hL := duL_length t t.length
    rw [hL]
    have HCS := hide (fun j (hj : j < t.length) => (hB3.cell j).trans (hcs j (du t j) (by simp [duL, hj])))
    clear hcs hL hB3 hg
    have hb4 := hb.trans (hb3.mono hb.size)
    go_wp2_with fail
    go_loopw [12] (fun i wr => ∃ p : Nat, p ≤ t.length ∧ i = .int .i64 p ∧ Hid (∀ j, j < p → du t j = j) ∧ ∃ d, w3.drewN d = wr) (fun i _ => t.length - (intOf i).toNat)
    case atStart => exact ⟨0, by omega, rfl, hide fun j hj => absurd hj (by omega), 0, rfl⟩
    case round =>
      obtain ⟨p, hp, rfl, HP, d, rfl⟩ := hrel
      by_cases hlp : p < t.length
      · have a1 := HCS.out p hlp
        obtain ⟨x, ex⟩ : ∃ x, du t p = x := ⟨_, rfl⟩
        rw [ex] at a1
        have EX := hide ex
        clear ex
        by_cases hx : x = p
        · have HE := hide (EX.out.trans hx)
          subst hx
          go_wp2_with fail
          go_roundw
          case rel => exact ⟨p + 1, by omega, by go_num, hide fun j hj => (by rcases Nat.lt_succ_iff_lt_or_eq.1 hj with h | rfl; exact HP.out j h; exact HE.out), d, rfl⟩
          case measure => simp [intOf] <;> omega
        · have HE := hide (sdB_1 hlp (by rw [EX.out]; exact hx))
          have hxb : (x != (p : Int)) = true := by simp [hx]
          have hxb2 : ((p : Int) != x) = true := by simp; omega
          clear hx
          go_wp2_with fail
          refine bodyPost_ret (v := .tuple #[.bool false, .int .i64 0]) (by simp [results, Try.results14, go_sem]) rfl ?_
          rw [HE.out, HK.out]
          exact ⟨rfl, below_drewN hb4 d⟩
      · obtain rfl : p = t.length := by omega
        have HE := hide (sdB_2 HR.out HP.out)
        go_wp2_with fail
        refine bodyPost_ret (v := .tuple #[.bool true, .int .i64 0]) (by simp [results, Try.results14, go_sem]) rfl ?_
        rw [HE.out, HK.out]
        exact ⟨rfl, below_drewN hb4 d⟩
end Go.Proofs.Ytljnalobedkohaa
