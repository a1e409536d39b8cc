
/- The walks of l10Alike and of the closure value of eachIsometry. The walk of impl.generators: a loop over slices.Backward that fills a list. The walks of l10Image and imagesBy. The walks of l10Isometry and of the closure isIsometry. The walk of the closure isIsometry of eachIsometry. -/
import Derived.Test.YtonehmjoolflfaaGreatDoorIMa
import Derived.WalkLawsBesides
import Derived.Test.YtonehmjoolflfaaGreatDoorC2
import Derived.Test.YtonehmjoolflfaaGreatDoorI5
namespace Go.Proofs.YtonehmjoolflfaaGreatDoor
open Go Go.RowKit Grp Go.Shelf
set_option linter.unusedSimpArgs false
set_option linter.unusedVariables false
set_option maxRecDepth 100000
theorem ord_div {D : Int} (h : ordB D = true) (h1 : 1 ≤ D) : D * ((55440 : Int) / D) = 55440 := by
  exact Int.mul_ediv_cancel' (Int.dvd_of_emod_eq_zero (ordB_iff.1 h).2)
set_option maxHeartbeats 2000000 in
theorem l10Alike_any (w : World) (o1 : Value) (D : Int) (B : Option Addr) (m k : Nat) (vs : List Int) (o2 : Value) (E : Int) (B' : Option Addr) (m' k' : Nat) (us : List Int) (x y : Nat)
    (g : Sl w w.heap.size B m k vs) (g' : Sl w w.heap.size B' m' k' us) (hD : 1 ≤ D ∧ D ≤ 55440) (hE : 1 ≤ E ∧ E ≤ 55440) (hv : ∀ v ∈ vs, 0 ≤ v ∧ v < D) (hu : ∀ v ∈ us, 0 ≤ v ∧ v < E) (hx : x < vs.length) (hy : y < us.length)
    (A1 : Option Addr) (n1 c1 : Nat) (e1 : o1 = .slice A1 n1 c1) (A2 : Option Addr) (n2 c2 : Nat) (e2 : o2 = .slice A2 n2 c2) :
    Calls Tryz.prog 100 #[.agg #[o1, .int .i64 D, .slice B m k], .agg #[o2, .int .i64 E, .slice B' m' k'], .int .i64 x, .int .i64 y] w (Re w (.bool (alB D E (gi vs x) (gi us y)))) := by
  subst e1 e2
  obtain rfl := g.len
  obtain rfl := g'.len
  obtain ⟨b, off, rfl, hb, hc⟩ := g.at_ (by omega)
  obtain ⟨b', off', rfl, hb', hc'⟩ := g'.at_ (by omega)
  have k1 := hc x hx
  have k2 := hc' y hy
  have v1 := hv _ (gi_mem hx)
  have v2 := hu _ (gi_mem hy)
  clear hc hc'
  obtain ⟨a, ea⟩ : ∃ a, gi vs x = a := ⟨_, rfl⟩
  obtain ⟨d, ed⟩ : ∃ d, gi us y = d := ⟨_, rfl⟩
  rw [ea] at k1 v1 ⊢
  rw [ed] at k2 v2 ⊢
  clear ea ed
  have p1 : 0 ≤ a * E := Int.mul_nonneg (by omega) (by omega)
  have p2 : a * E ≤ 55440 * 55440 := Int.mul_le_mul (by omega) (by omega) (by omega) (by omega)
  have p3 : 0 ≤ d * D := Int.mul_nonneg (by omega) (by omega)
  have p4 : d * D ≤ 55440 * 55440 := Int.mul_le_mul (by omega) (by omega) (by omega) (by omega)
  have hX := hide (show (a * E == d * D) = alB D E a d from rfl)
  obtain ⟨P, eP⟩ : ∃ P, a * E = P := ⟨_, rfl⟩
  obtain ⟨Q, eQ⟩ : ∃ Q, d * D = Q := ⟨_, rfl⟩
  rw [eP, eQ] at hX
  rw [eP] at p1 p2
  rw [eQ] at p3 p4
  have t1 : IntKind.i64.wrap (a * E) = P := by rw [eP]; exact wrap_in (by omega) (by omega)
  have t2 : IntKind.i64.wrap (d * D) = Q := by rw [eQ]; exact wrap_in (by omega) (by omega)
  have i0 : (0 : Int) ≤ x := by omega
  have i1 : (x : Int) < (vs.length : Int) := by omega
  have i2 : (0 : Int) ≤ y := by omega
  have i3 : (y : Int) < (us.length : Int) := by omega
  clear eP eQ
  go_enter Tryz.func100, Tryz.ntmps100
  go_wp2_with fail
  obtain ⟨W, hW⟩ : ∃ W, (w.alloc (.cells #[.slice A1 n1 c1, .int .i64 D, .slice (some ⟨b, off, none⟩) vs.length k] 26)).alloc (.cells #[.slice A2 n2 c2, .int .i64 E, .slice (some ⟨b', off', none⟩) us.length k'] 26) = W := ⟨_, rfl⟩
  have hbW : Below w.heap.size w W := by rw [← hW]; exact (by repeat (first | assumption | exact Below.refl _ _ | apply below_drewN | apply Below.drew | apply Below.alloc | apply Below.setCell | omega | (focus (simp; done)) | (focus (simp; omega))))
  have bm : Blk W w.heap.size 26 #[.slice A1 n1 c1, .int .i64 D, .slice (some ⟨b, off, none⟩) vs.length k] := by rw [← hW]; exact (Blk.new _ _ _).alloc _
  have bn : Blk W (w.heap.size + 1) 26 #[.slice A2 n2 c2, .int .i64 E, .slice (some ⟨b', off', none⟩) us.length k'] := by rw [← hW]; exact Blk.new' _ _ _ _ (by simp)
  have q1 := bm.cell 1
  have q2 := bm.cell 2
  have r1 := bn.cell 1
  have r2 := bn.cell 2
  have d1 := (hbW.cell (p := ⟨b, off + x, none⟩) hb).trans k1
  have d2 := (hbW.cell (p := ⟨b', off' + y, none⟩) hb').trans k2
  rw [hW]
  clear hW k1 k2 bm bn
  refine wp_region_dr [0, 1, 2, 3, 4, 5, 6, 7, 8, 9, 10, 11, 12, 13, 14, 15, 16, 17] 17 W (by kernel_rfl) (by kernel_rfl) (by kernel_rfl) (fun _ _ _ _ _ h => h) (Dr.refl _) (fun wd hDr => ?_)
  repeat (first | (apply ord_tk rfl (by rfl) (by rfl) (by rfl); (focus (rintro w ⟨dm, rfl⟩; go_simp; (try with_reducible rfl))); (try simp only [Act.put, List.setIfInBounds_toArray, List.set_cons_zero, List.set_cons_succ])) | (apply ord_skip rfl (by rfl) (by rfl) (fun _ => hDr); (try simp only [Act.put, List.setIfInBounds_toArray, List.set_cons_zero, List.set_cons_succ])))
  refine ord_do rfl (by rfl) (by rfl) (fun K hK => ?_)
  go_simp
  refine hK.out _ _ (fun h => absurd h (by omega)) ?_
  (try simp only [Act.put, List.setIfInBounds_toArray, List.set_cons_zero, List.set_cons_succ])
  clear hK K
  refine ord_nil ?_
  go_wp2_with fail
  go_ret
  exact ⟨by rw [← hX.out]; (try simp [bne]), hDr.below hbW⟩
set_option maxHeartbeats 2000000 in
theorem valF_any (w : World) (D : Int) (B : Option Addr) (m k : Nat) (vs : List Int) (x : Nat) (g : Sl w w.heap.size B m k vs) (hD : 1 ≤ D ∧ D ≤ 55440) (hv : ∀ v ∈ vs, 0 ≤ v ∧ v < D) (hx : x < vs.length) (A1 : Option Addr) (n1 c1 : Nat) :
    Calls Tryz.prog 60 #[.agg #[.slice A1 n1 c1, .int .i64 D, .slice B m k], .int .i64 x] w (Re w (.int .i64 (gi vs x * (55440 / D)))) := by
  obtain rfl := g.len
  obtain ⟨b, off, rfl, hb, hc⟩ := g.at_ (by omega)
  have k1 := hc x hx
  have v1 := hv _ (gi_mem hx)
  clear hc
  obtain ⟨a, ea⟩ : ∃ a, gi vs x = a := ⟨_, rfl⟩
  rw [ea] at k1 v1 ⊢
  clear ea
  obtain ⟨q, eq⟩ : ∃ q, (55440 : Int) / D = q := ⟨_, rfl⟩
  have q0 : 0 ≤ q := by rw [← eq]; exact Int.ediv_nonneg (by omega) (by omega)
  have q1 : q ≤ 55440 := by rw [← eq]; exact Int.ediv_le_self _ (by omega)
  have t1 : (55440 : Int).tdiv D = q := by rw [Int.tdiv_eq_ediv_of_nonneg (by omega)]; exact eq
  have t2 : IntKind.i64.wrap q = q := wrap_in (by omega) (by omega)
  have p1 : 0 ≤ a * q := Int.mul_nonneg (by omega) (by omega)
  have p2 : a * q ≤ 55440 * 55440 := Int.mul_le_mul (by omega) (by omega) (by omega) (by omega)
  rw [eq]
  obtain ⟨P, eP⟩ : ∃ P, a * q = P := ⟨_, rfl⟩
  rw [eP] at p1 p2
  have t3 : IntKind.i64.wrap (a * q) = P := by rw [eP]; exact wrap_in (by omega) (by omega)
  have t4 : ¬ D = 0 := by omega
  have hP := hide eP
  have i0 : (0 : Int) ≤ x := by omega
  have i1 : (x : Int) < (vs.length : Int) := by omega
  clear eP
  go_enter Tryz.func60, Tryz.ntmps60
  go_wp2_with fail
  obtain ⟨W, hW⟩ : ∃ W, w.alloc (.cells #[.slice A1 n1 c1, .int .i64 D, .slice (some ⟨b, off, none⟩) vs.length k] 26) = W := ⟨_, rfl⟩
  have hbW : Below w.heap.size w W := by rw [← hW]; exact (by repeat (first | assumption | exact Below.refl _ _ | apply below_drewN | apply Below.drew | apply Below.alloc | apply Below.setCell | omega | (focus (simp; done)) | (focus (simp; omega))))
  have bm : Blk W w.heap.size 26 #[.slice A1 n1 c1, .int .i64 D, .slice (some ⟨b, off, none⟩) vs.length k] := by rw [← hW]; exact Blk.new _ _ _
  have q1 := bm.cell 1
  have q2 := bm.cell 2
  have d1 := (hbW.cell (p := ⟨b, off + x, none⟩) hb).trans k1
  rw [hW]
  clear hW k1 bm
  refine wp_region_dr [0, 1, 2, 3, 4, 5, 6, 7, 8, 9] 9 W (by kernel_rfl) (by kernel_rfl) (by kernel_rfl) (fun _ _ _ _ _ h => h) (Dr.refl _) (fun wd hDr => ?_)
  repeat (first | (apply ord_tk rfl (by rfl) (by rfl) (by rfl); (focus (rintro w ⟨dm, rfl⟩; go_simp; (try with_reducible rfl))); (try simp only [Act.put, List.setIfInBounds_toArray, List.set_cons_zero, List.set_cons_succ])) | (apply ord_skip rfl (by rfl) (by rfl) (fun _ => hDr); (try simp only [Act.put, List.setIfInBounds_toArray, List.set_cons_zero, List.set_cons_succ])))
  refine ord_do rfl (by rfl) (by rfl) (fun K hK => ?_)
  go_simp
  refine hK.out _ _ (fun h => absurd h (by omega)) ?_
  (try simp only [Act.put, List.setIfInBounds_toArray, List.set_cons_zero, List.set_cons_succ])
  clear hK K
  refine ord_nil ?_
  go_wp2_with fail
  go_ret
  exact ⟨by rw [hP.out]; rfl, hDr.below hbW⟩
attribute [local go_sem] Oper.semAt_some
/-- The generators. -/
def genL (zs : List Int) : List Int := (List.range zs.length).map fun i => prodL (zs.drop (i + 1))
theorem genL_len (zs : List Int) : (genL zs).length = zs.length := by simp [genL]
theorem genL_at {zs : List Int} {i : Nat} (h : i < zs.length) : gi (genL zs) i = prodL (zs.drop (i + 1)) := by
  unfold gi genL; rw [List.getD_eq_getElem?_getD, List.getElem?_map, List.getElem?_range h]; rfl
theorem prodL_drop {zs : List Int} (h : OkG zs) (j : Nat) : 1 ≤ prodL (zs.drop j) ∧ prodL (zs.drop j) ≤ 16 := by
  have e : prodL zs = prodL (zs.take j) * prodL (zs.drop j) := by rw [← prodL_append, List.take_append_drop]
  have h1 : 1 ≤ prodL (zs.take j) := prodL_pos fun m hm => h.pos m (List.mem_of_mem_take hm)
  have h2 : 1 ≤ prodL (zs.drop j) := prodL_pos fun m hm => h.pos m (List.mem_of_mem_drop hm)
  have h3 := h.p16
  have h4 : 1 * prodL (zs.drop j) ≤ prodL (zs.take j) * prodL (zs.drop j) := Int.mul_le_mul_of_nonneg_right h1 (by omega)
  omega
theorem prodL_at {zs : List Int} {j : Nat} (h : j < zs.length) : prodL (zs.drop j) = gi zs j * prodL (zs.drop (j + 1)) := by rw [drop_gi h]; rfl
def genT (zs : List Int) {n : Nat} (s : Array Value × Int) (j : {j : Nat // j < n}) : Array Value × Int := (s.1.setIfInBounds j.1 (.int .i64 s.2), IntKind.i64.wrap (s.2 * gi zs j.1))
def foldG (zs : List Int) {n : Nat} (cs : Array Value) (pre : List {j : Nat // j < n}) : Array Value × Int := pre.foldl (genT zs) (cs, 1)
theorem foldG_snoc (zs : List Int) {n : Nat} (cs : Array Value) (pre : List {j : Nat // j < n}) (j : {j : Nat // j < n}) : foldG zs cs (pre ++ [j]) = genT zs (foldG zs cs pre) j := by simp [foldG]
theorem foldG_done {zs : List Int} (hG : OkG zs) (cs : Array Value) (hcs : cs.size = zs.length) (h : 0 < zs.length) : ∀ k, k ≤ zs.length →
    FilledT (foldG zs cs (upTo (ixT zs.length h) k)).1 zs.length (zs.length - k) (genL zs) ∧ (foldG zs cs (upTo (ixT zs.length h) k)).2 = prodL (zs.drop (zs.length - k)) := by
  intro k
  induction k with
  | zero =>
    intro _
    refine ⟨⟨hcs, fun j hj hjn => absurd hj (by omega)⟩, ?_⟩
    rw [Nat.sub_zero, List.drop_length]; rfl
  | succ k ih =>
    intro hk
    obtain ⟨hF, hD⟩ := ih (by omega)
    rw [upTo_succ, foldG_snoc]
    obtain ⟨s, hs⟩ : ∃ s, foldG zs cs (upTo (ixT zs.length h) k) = s := ⟨_, rfl⟩
    rw [hs] at hF hD ⊢
    obtain ⟨j, hj⟩ : ∃ j, zs.length - (k + 1) = j := ⟨_, rfl⟩
    have hj1 : zs.length - k = j + 1 := by omega
    have hjl : j < zs.length := by omega
    have hjx : (ixT zs.length h k).1 = j := by show zs.length - 1 - k = j; omega
    rw [hj1] at hF hD
    rw [hj]
    unfold genT
    rw [hjx]
    have hp := prodL_drop hG j
    refine ⟨hF.set_ hjl (by rw [genL_at hjl, hD]), ?_⟩
    simp only
    rw [hD, prodL_at hjl, Int.mul_comm (prodL _)]
    rw [prodL_at hjl] at hp
    exact wrap_in (by omega) (by omega)
/-- Between two rounds. -/
structure GenI (w : World) (A : Option Addr) (n c : Nat) (zs : List Int) (cs0 : Array Value) (pre : List {j : Nat // j < n}) (W : World) : Prop where
  vo : Blk W w.heap.size 24 #[.slice A n c]
  vc : Blk W (w.heap.size + 1) 2 (foldG zs cs0 pre).1
  vt : Blk W (w.heap.size + 1 + 1) 24 #[.slice (some ⟨w.heap.size + 1, 0, none⟩) n n]
  vx : Blk W (w.heap.size + 1 + 1 + 1) 2 #[.int .i64 (foldG zs cs0 pre).2]
  sz : (foldG zs cs0 pre).1.size = n
  below : Below w.heap.size w W
theorem GenI.own {w : World} {A : Option Addr} {n c : Nat} {zs : List Int} {cs0 : Array Value} {D : Nat} (hD : w.heap.size + 4 ≤ D) : OwnFrom D (GenI w A n c zs cs0) := fun s A B row hs hg hr => by
  have h : ∀ g, g < w.heap.size + 4 → row ≠ some g := fun g hg' e => by have := (hr g e).1; omega
  exact ⟨hs.vo.grown hg (h _ (by omega)), hs.vc.grown hg (h _ (by omega)), hs.vt.grown hg (h _ (by omega)), hs.vx.grown hg (h _ (by omega)), hs.sz,
    hs.below.grown hg hs.below.size (fun k e => by have := (hr k e).1; omega)⟩
set_option maxRecDepth 100000 in
set_option maxHeartbeats 4000000 in
theorem generators_in (F : Fence) (N : Nat) (h1 : F.fn 59) (h2 : F.fn 93) (h3 : F.fn 111) (hro : F.round = none) (hN : 3 ≤ N) (A : Option Addr) (c : Nat) (zs : List Int) (hG : OkG zs) (w : World) (h : Sl w w.heap.size A zs.length c zs) :
    CallsIn F N Tryz.prog 59 #[.slice A zs.length c] w (Mk w (genL zs)) := by
  obtain ⟨i0, hi0, hz0, hz1, hz2⟩ := info_parts int_info
  have h4 := hG.l4
  have hl1 : 0 < zs.length := hG.l1
  have hn1 : 1 ≤ N := by omega
  have hmk := fun W => run_make (P := Tryz.prog) (w := W) 24 2 i0 (.int .i64 0) Tryz.underlying24 hi0 hz0 .i64 .i64 zs.length zs.length (by omega) (by omega) (by rw [hz2]; omega) (by omega)
  simp only [hz1, Int.toNat_natCast, Nat.mul_one] at hmk
  obtain ⟨b, off, rfl, hb, hc⟩ := h.at_ hl1
  have hcH := hide hc
  clear hc
  obtain ⟨cs0, hcs0⟩ : ∃ cs0, madeCells #[Value.int .i64 0] zs.length = cs0 := ⟨_, rfl⟩
  have hsz0 : cs0.size = zs.length := by rw [← hcs0]; exact size_madeCells _ _
  have hS0 := hide hsz0
  clear hsz0
  refine callsIn_of_wp_marks Tryz.func59 rfl h1 ?_ hro
  simp only [Tryz.ntmps59, List.size_toArray, List.length_cons, List.length_nil, Nat.reduceAdd, Nat.reduceSub, Array.replicate_succ, Array.replicate_zero, List.push_toArray, List.append_toArray, List.nil_append, List.cons_append]
  gi_wp2_with (gi_at_call 93; refine (bw_in F (N - 1) h2 hro _ _ _ _).mono ?_; rintro e w' ⟨rfl, rfl⟩)
  have hB0 : Below w.heap.size w (((((w.alloc (.cells #[.slice (some ⟨b, off, none⟩) zs.length c] 24)).alloc (.cells cs0 2)).alloc (.cells #[.slice (some ⟨w.heap.size + 1, 0, none⟩) zs.length zs.length] 24)).alloc (.cells #[.int .i64 1] 2)).alloc (.cells #[.slice (some ⟨b, off, none⟩) zs.length c] 24)) := (by repeat (first | assumption | exact Below.refl _ _ | apply below_drewN | apply Below.drew | apply Below.alloc | apply Below.setCell | omega | (focus (simp; done)) | (focus (simp; omega))))
  refine wpIn_rangeFunc_ownG hro hn1 (gf := 111) (lb := #[.pointer (some ⟨w.heap.size + 1 + 1 + 1 + 1, 0, none⟩)]) rfl h3 (enters_of Tryz.func111 (by kernel_rfl) rfl)
    (bw_stops (fun j : {j : Nat // j < zs.length} => #[.int .i64 (j.1 : Int), .int .i64 (gi zs j.1)]) (ixT zs.length hl1) F (N - 1) h3 hro (by omega) (w.heap.size + 1 + 1 + 1 + 1) w.heap.size zs.length c (some ⟨b, off, none⟩) zs (by omega) (fun k hk => by simp only [ixT]; rw [show ((zs.length - 1 - k : Nat) : Int) = (zs.length : Int) - 1 - k by omega]) _ (by simp) (by simp; omega) (by simp [World.cell?_alloc_at]) (h.below hB0))
    KpB.trans (KpB.obj (by simp; omega)) (Below.refl _ _) (fun _ => rfl)
    (GenI w (some ⟨b, off, none⟩) zs.length c zs cs0) (fun _ _ _ => False) (GenI.own (by simp)) (fun _ _ _ _ _ hs _ _ => hs)
    ⟨?v1, ?v2, ?v3, ?v4, hS0.out, hB0⟩
    ?a1 ?assign ?body ?done ?stop
  case v1 => exact ((((Blk.new _ _ _).alloc _).alloc _).alloc _).alloc _
  case v2 => exact (((Blk.new' _ _ _ _ (by simp)).alloc _).alloc _).alloc _
  case v3 => exact ((Blk.new' _ _ _ _ (by simp)).alloc _).alloc _
  case v4 => exact (Blk.new' _ _ _ _ (by simp)).alloc _
  case assign =>
    intro l x W K hK
    gi_wp2
    exact hK
  case body =>
    rintro l pre ⟨j, hj⟩ W ⟨hvo, hvc, hvt, hvx, sz, hB⟩ _
    obtain ⟨s1, hs1⟩ : ∃ s1, foldG zs cs0 pre = s1 := ⟨_, rfl⟩
    have HX := hide hs1
    rw [hs1] at hvx hvc sz
    clear hs1
    obtain ⟨cs, p⟩ := s1
    simp only at hvx hvc sz
    have cj := (hB.cell (p := ⟨b, off + j, none⟩) hb).trans (hcH.out j hj)
    obtain ⟨m, hm⟩ : ∃ m, gi zs j = m := ⟨_, rfl⟩
    rw [hm] at cj
    have HM := hide hm
    clear hm
    obtain ⟨u, hu⟩ : ∃ u, cs[j]? = some u := ⟨cs[j]'(by omega), Array.getElem?_eq_getElem _⟩
    have cu := (hvc.cell j).trans hu
    have fu := hvc.frozen j
    have co := hvo.cell 0
    have cx := hvx.cell 0
    have fx := hvx.frozen 0
    have ct := hvt.cell 0
    have HU := hide hu
    clear hu
    have i0 : 0 ≤ (j : Int) := by omega
    have i1 : (j : Int) < (zs.length : Int) := by omega
    have hs : foldG zs cs0 (pre ++ [⟨j, hj⟩]) = (cs.setIfInBounds j (.int .i64 p), IntKind.i64.wrap (p * m)) := by rw [foldG_snoc, HX.out]; unfold genT; simp only; rw [HM.out]
    have HS := hide hs
    clear hs
    obtain ⟨r, hr⟩ : ∃ r, IntKind.i64.wrap (p * m) = r := ⟨_, rfl⟩
    rw [hr] at HS
    have hbw : b ≠ w.heap.size + 1 := by omega
    gi_wp2
    refine wpIn_region_ord [0, 1, 2, 3, 4, 5, 6] 6 1000 (fun _ w' => w'.cell? ⟨w.heap.size + 1 + 1 + 1, 0, none⟩ = some (.int .i64 p) ∧ w'.cell? ⟨w.heap.size, 0, none⟩ = some (.slice (some ⟨b, off, none⟩) zs.length c) ∧ w'.cell? ⟨b, off + j, none⟩ = some (.int .i64 m)) (by kernel_rfl) (by kernel_rfl) (by kernel_rfl) (by kernel_rfl) (by kernel_rfl) ⟨?_, ?_, ?_⟩ ?_
    any_goals (go_simp; done)
    repeat (apply ordV_tk rfl (by rfl) (by rfl) (by rfl); (focus (rintro w ⟨bb, hbb, hSw⟩; (try have hbb' := hbb (by decide +kernel)); (try subst hbb'); clear hbb; (try dsimp only at hSw); (try simp only [true_implies, forall_const] at hSw); go_simp; (try with_reducible rfl))); (try simp only [Act.put, List.setIfInBounds_toArray, List.set_cons_zero, List.set_cons_succ]))
    refine ordV_store rfl (by rfl) (by rfl) (by go_simp; rfl) (fun h => absurd h (by omega)) ?_
    (try simp only [Act.put, List.setIfInBounds_toArray, List.set_cons_zero, List.set_cons_succ])
    refine ordV_nil ?_
    gi_wp2
    refine ⟨KeepsOthers.from ?kt _, ⟨(((Below.refl _ W).setCell ?n1 _).setCell ?n2 _).drew, fun v hv => ?kb⟩, ⟨?x1, ?x2, ?x3, ?x4, ?x5, (((hB.setCell ?n1 _).setCell ?n2 _).drew)⟩⟩
    case kt => exact ((KeepsOthers.setCell _ _ _).trans (KeepsOthers.setCell _ _ _)).trans (KeepsOthers.drew _)
    all_goals first | (show w.heap.size ≤ _; dsimp only; omega) | skip
    case kb => go_simp
    case x1 => exact (hvo.far (by simp <;> omega) _).far (by simp <;> omega) _
    case x2 => rw [HS.out]; exact (hvc.store j _).far (by simp <;> omega) _
    case x3 => exact (hvt.far (by simp <;> omega) _).far (by simp <;> omega) _
    case x4 => rw [HS.out]; exact (hvx.far (by simp <;> omega) _).store 0 _
    case x5 => rw [HS.out]; simp [sz]
  case done =>
    rintro D ys W hD rfl hs hK
    have ct := hs.vt.cell 0
    obtain ⟨hF, -⟩ := foldG_done hG cs0 hS0.out hl1 zs.length (Nat.le_refl _)
    rw [Nat.sub_self] at hF
    have HF := hide hF
    clear hF
    gi_wp2
    refine ⟨by simp, .inl ⟨_, _, rfl, run_takeDeferred hK, ?_⟩⟩
    refine ⟨_, results_tmp rfl _ _ _, ?_⟩
    have hlD := genL_len zs
    have hkeep := belowK_b (w := (((((w.alloc (.cells #[.slice (some ⟨b, off, none⟩) zs.length c] 24)).alloc (.cells cs0 2)).alloc (.cells #[.slice (some ⟨w.heap.size + 1, 0, none⟩) zs.length zs.length] 24)).alloc (.cells #[.int .i64 1] 2)).alloc (.cells #[.slice (some ⟨b, off, none⟩) zs.length c] 24))) (Nat.le_refl _) W D _ (.deferred none) hD hK rfl rfl
    refine ⟨.slice (some ⟨w.heap.size + 1, 0, none⟩) zs.length zs.length, rfl, ?_, hs.below.trans (hkeep.mono (by simp <;> omega))⟩
    refine ⟨by simp [hlD], .inr ⟨w.heap.size + 1, zs.length, _, by rw [hlD], by omega, (hkeep.block _ (by simp <;> omega)).trans hs.vc, by omega, by unfold maxLen; omega, by rw [hs.sz, Nat.mul_one], ?_⟩⟩
    rw [hlD, Nat.mul_one, HF.out.all.done hlD, List.take_of_length_le (by simp [hlD])]
  case stop =>
    rintro D c pre W _ _ h _
    exact h.elim
theorem generators_any (w : World) (A : Option Addr) (n c : Nat) (zs : List Int) (hG : OkG zs) (h : Sl w w.heap.size A n c zs) : Calls Tryz.prog 59 #[.slice A n c] w (Mk w (genL zs)) := by
  obtain rfl := h.len
  exact callsIn_wide.1 (generators_in Fence.wide 3 trivial trivial trivial rfl (Nat.le_refl _) A c zs hG w h)
set_option maxHeartbeats 4000000 in
theorem l10Image_any (w : World) (B : Nat) (A : Option Addr) (n c : Nat) (os : List Int) (A2 : Option Addr) (n2 c2 : Nat) (ps : List Int) (A3 : Option Addr) (n3 c3 : Nat) (im : List Int) (x : Nat)
    (h : Sl w B A n c os) (h2 : Sl w B A2 n2 c2 ps) (h3 : Sl w B A3 n3 c3 im) (hB : B ≤ w.heap.size) (hG : OkG os) (hG2 : OkG ps) (hl : im.length = os.length) (hi : ∀ y ∈ im, 0 ≤ y ∧ y ≤ 1000000) (hx : x ≤ 1000000) :
    Calls Tryz.prog 112 #[.slice A n c, .slice A2 n2 c2, .slice A3 n3 c3, .int .i64 x] w (Re w (.int .i64 (imF os ps im x))) := by
  obtain rfl := h.len
  obtain rfl := h3.len
  have h4 := hG.l4
  have h1 := hG.l1
  have hp16 := hG2.p16
  have hF := hide (show imF os ps im x = imT ps (Dg os x) im os.length from rfl)
  obtain ⟨L, hL⟩ : ∃ L, os.length = L := ⟨_, rfl⟩
  have HL := hide hL
  have hD := hide (l10Digits_any w B A os.length c os x h hB hG (by omega) (by omega))
  have hdl := Dg_length os (x : Int)
  have hdr : ∀ k, k < os.length → 0 ≤ gi (Dg os (x : Int)) k ∧ gi (Dg os (x : Int)) k < gi os k := fun k hk => Dg_rng hG (by omega) hk
  have hdm : ∀ k, k < os.length → gi os k ≤ 16 := fun k hk => hG.m16 _ (gi_mem hk)
  obtain ⟨tu, htu⟩ : ∃ tu, Dg os (x : Int) = tu := ⟨_, rfl⟩
  rw [htu] at hD hdl hdr hF
  have HD := hide hdr
  have HM := hide hdm
  rw [hl, hL]
  rw [hL] at hD hdl h4 h1 h hF hl
  clear htu hdr hdm hL
  go_enter Tryz.func112, Tryz.ntmps112
  go_wp2_with fail
  refine hD.out.mono ?_
  rintro e w1 ⟨v, rfl, hO, hb1⟩
  have hti : ∀ y ∈ tu, i64ok y := fun y hy => by
    obtain ⟨j, hj, rfl⟩ := List.getElem_of_mem hy
    have := HD.out j (by rw [HL.out]; omega)
    have := HM.out j (by rw [HL.out]; omega)
    rw [gi_ext hj]
    exact ⟨by omega, by omega⟩
  obtain ⟨At, ct, rfl, hT⟩ := hO.sl hti
  rw [hdl] at hT ⊢
  have hs1 := hb1.size
  have hr0 := imT_rng hG2 tu im 0
  have h2' := (h2.below (hb1.mono hB)).more (Nat.le_trans hB hs1)
  have h3' := (h3.below (hb1.mono hB)).more (Nat.le_trans hB hs1)
  clear hO hD
  go_wp2_with fail
  go_loopw [10, 11] (fun ov i wr => ∃ k : Nat, k ≤ L ∧ i = .int .i64 k ∧ ov = .int .i64 (imT ps tu im k) ∧ Below w1.heap.size w1 wr) (fun _ i _ => L - (intOf i).toNat)
  case atStart => exact ⟨0, by omega, rfl, rfl, Below.refl _ _⟩
  case round =>
    obtain ⟨k, hk, rfl, rfl, hBe⟩ := hrel
    have hsz := hBe.size
    by_cases hlt : k < L
    · obtain ⟨b, off, rfl, hb, hc⟩ := hT.at_ (by omega)
      have c1 := (hBe.cell (p := ⟨b, off + k, none⟩) hb).trans (hc k hlt)
      obtain ⟨b3, off3, rfl, hb3, hc3⟩ := h3'.at_ (by omega)
      clear hc
      have r1 := HD.out k (by rw [HL.out]; omega)
      have r2 := HM.out k (by rw [HL.out]; omega)
      have r3 := hi _ (gi_mem (show k < im.length by omega))
      have HS := hide (show imT ps tu im (k + 1) = addT ps (gi im k) (gi tu k).toNat (imT ps tu im k) from rfl)
      have hr := imT_rng hG2 tu im k
      obtain ⟨t, ht⟩ : ∃ t : Nat, gi tu k = t := ⟨(gi tu k).toNat, by omega⟩
      obtain ⟨y, hy⟩ : ∃ y, gi im k = y := ⟨_, rfl⟩
      obtain ⟨o, ho⟩ : ∃ o, imT ps tu im k = o := ⟨_, rfl⟩
      rw [ht, hy, ho, Int.toNat_natCast] at HS
      rw [ht] at c1 r1
      rw [hy] at r3
      rw [ho] at hr ⊢
      have ht16 : t ≤ 16 := by omega
      have HC := hide (show w1.cell? ⟨b3, off3 + k, none⟩ = some (.int .i64 y) by rw [← hy]; exact hc3 k (by omega))
      clear ht hy ho hc3
      go_wp2_with fail
      clear c1
      go_loopw [10, 12] (fun ov i wr => ∃ j q : Nat, j + q = t ∧ i = .int .i64 q ∧ ov = .int .i64 (addT ps y j o) ∧ Below w1.heap.size w1 wr) (fun _ i _ => (intOf i).toNat)
      case atStart => exact ⟨0, t, by omega, rfl, rfl, hBe⟩
      case round =>
        clear hBe hsz
        obtain ⟨j, q, hj, rfl, rfl, hBe⟩ := hrel
        have hsz := hBe.size
        have hra := addT_rng hG2 y j hr.1 hr.2
        have HSn := hide (show addT ps y (j + 1) o = Ar ps (addT ps y j o) y from rfl)
        obtain ⟨a, ha⟩ : ∃ a, addT ps y j o = a := ⟨_, rfl⟩
        rw [ha] at hra HSn ⊢
        have HA := hide ha
        clear ha
        by_cases hjt : 0 < q
        · have c3' := (hBe.cell (p := ⟨b3, off3 + k, none⟩) hb3).trans HC.out
          have hq1 : (0 : Int) < q := by omega
          go_wp2_with fail
          clear c3'
          refine (l10Add_any wr w1.heap.size _ _ _ ps a y (h2'.below hBe) hG2 (by omega) (by omega) (by omega) (by omega)).mono ?_
          rintro e w5 ⟨rfl, dm, rfl⟩
          obtain ⟨z, hz⟩ : ∃ z, Ar ps a y = z := ⟨_, rfl⟩
          rw [hz] at HSn ⊢
          clear hz
          have hB5 : Below w1.heap.size w1 (wr.drewN dm) := below_drewN hBe _
          go_wp2_with fail
          go_roundw
          case rel => exact ⟨j + 1, q - 1, by omega, by go_num, by rw [HSn.out], hB5⟩
          case measure => simp [intOf] <;> omega
        · obtain rfl : q = 0 := by omega
          obtain rfl : j = t := by omega
          go_wp2_with fail
          go_roundw
          case rel => exact ⟨k + 1, by omega, by go_num, by rw [HS.out, HA.out], hBe⟩
          case measure => simp [intOf] <;> omega
    · obtain rfl : k = L := by omega
      go_wp2_with fail
      go_ret
      exact ⟨by rw [hF.out]; rfl, hb1.trans (hBe.mono hs1)⟩
set_option maxHeartbeats 4000000 in
theorem imagesBy_any (w : World) (A : Option Addr) (n c : Nat) (os : List Int) (A2 : Option Addr) (n2 c2 : Nat) (ps : List Int) (E : Int) (Bq : Option Addr) (mq kq : Nat) (A3 : Option Addr) (n3 c3 : Nat) (im : List Int)
    (h : Sl w w.heap.size A n c os) (h2 : Sl w w.heap.size A2 n2 c2 ps) (h3 : Sl w w.heap.size A3 n3 c3 im) (hG : OkG os) (hG2 : OkG ps) (hl : im.length = os.length) (hi : ∀ y ∈ im, 0 ≤ y ∧ y ≤ 1000000) :
    Calls Tryz.prog 62 #[.slice A n c, .agg #[.slice A2 n2 c2, .int .i64 E, .slice Bq mq kq], .slice A3 n3 c3] w (Mk w ((List.range (prodL os).toNat).map fun (x : Nat) => imF os ps im x)) := by
  obtain rfl := h.len
  obtain rfl := h3.len
  have h4 := hG.l4
  have h1 := hG.l1
  have hp16 := hG2.p16
  have hq16 := hG.p16
  have hq1 := prodL_pos hG.pos
  obtain ⟨L, hL⟩ : ∃ L, os.length = L := ⟨_, rfl⟩
  obtain ⟨M, hM⟩ : ∃ M : Nat, prodL os = M := ⟨(prodL os).toNat, by omega⟩
  have hgs := fun W B (hW : Sl W B A os.length c os) => groupSize_any W B A os.length c os hW (by omega)
  have hgz : gsz os = M := by rw [gsz_ok hG, hM]
  rw [hgz, hL] at hgs
  have HGS := hide hgs
  have hMM : (prodL os).toNat = M := by omega
  rw [hMM]
  have HL := hide hL
  have hM16 : M ≤ 16 := by omega
  rw [hl, hL]
  rw [hL] at h h4 h1 hl
  clear hgs hgz hMM hL hM hq16 hq1
  go_enter Tryz.func62, Tryz.ntmps62
  go_wp2_with fail
  have hO0 : Ow ((w.alloc (.cells #[.slice A2 n2 c2, .int .i64 E, .slice Bq mq kq] 26)).alloc (.cells #[] 2)) w.heap.size (.slice (some ⟨w.heap.size + 1, 0, none⟩) 0 0) ((List.range 0).map fun (x : Nat) => imF os ps im x) := Ow.made' (xs := []) _ _ (w.heap.size + 1) 0 (by simp) rfl (by omega) rfl (by unfold maxLen; omega)
  have bN0 : Blk ((w.alloc (.cells #[.slice A2 n2 c2, .int .i64 E, .slice Bq mq kq] 26)).alloc (.cells #[] 2)) w.heap.size 26 #[.slice A2 n2 c2, .int .i64 E, .slice Bq mq kq] := (Blk.new _ _ _).alloc _
  have hB0 : Below w.heap.size w ((w.alloc (.cells #[.slice A2 n2 c2, .int .i64 E, .slice Bq mq kq] 26)).alloc (.cells #[] 2)) := (by repeat (first | assumption | exact Below.refl _ _ | apply below_drewN | apply Below.drew | apply Below.alloc | apply Below.setCell | omega | (focus (simp; done)) | (focus (simp; omega))))
  obtain ⟨W, hW⟩ : ∃ W, (w.alloc (.cells #[.slice A2 n2 c2, .int .i64 E, .slice Bq mq kq] 26)).alloc (.cells #[] 2) = W := ⟨_, rfl⟩
  rw [hW] at hO0 bN0 hB0 ⊢
  clear hW
  refine (HGS.out _ _ (h.below hB0)).mono ?_
  rintro e w1 ⟨rfl, d, rfl⟩
  obtain ⟨w1, hw1⟩ : ∃ w1, W.drewN d = w1 := ⟨_, rfl⟩
  have hO1 : Ow w1 w.heap.size (.slice (some ⟨w.heap.size + 1, 0, none⟩) 0 0) ((List.range 0).map fun (x : Nat) => imF os ps im x) := by rw [← hw1]; exact hO0.drewN _
  have bN1 := bN0.drewN d
  have hB1 : Below w.heap.size w w1 := by rw [← hw1]; exact below_drewN hB0 _
  rw [hw1] at bN1 ⊢
  clear hw1 hO0 bN0 hB0
  go_wp2_with fail
  go_loopw [7, 15] (fun ov i wr => ∃ k : Nat, k ≤ M ∧ i = .int .i64 k ∧ Ow wr w.heap.size ov ((List.range k).map fun (x : Nat) => imF os ps im x) ∧ Blk wr w.heap.size 26 #[.slice A2 n2 c2, .int .i64 E, .slice Bq mq kq] ∧ Below w.heap.size w wr) (fun _ i _ => M - (intOf i).toNat)
  case atStart => exact ⟨0, by omega, rfl, hO1, bN1, hB1⟩
  case round =>
    clear hO1 bN1 hB1
    obtain ⟨k, hk, rfl, hO, bN, hBe⟩ := hrel
    have hsz := hBe.size
    by_cases hlt : k < M
    · have hdl := Dg_length os (k : Int)
      have hdr : ∀ j, j < os.length → 0 ≤ gi (Dg os (k : Int)) j ∧ gi (Dg os (k : Int)) j < gi os j := fun j hj => Dg_rng hG (by omega) hj
      have hdm : ∀ j, j < os.length → gi os j ≤ 16 := fun j hj => hG.m16 _ (gi_mem hj)
      have hTU := hide (tupleOf_any wr A L c os k hG (by omega) (by omega) ((h.below hBe).more hsz))
      have HS := hide (show ((List.range (k + 1)).map fun (x : Nat) => imF os ps im x) = ((List.range k).map fun (x : Nat) => imF os ps im x) ++ [imT ps (Dg os (k : Int)) im os.length] by rw [List.range_succ, List.map_append]; rfl)
      obtain ⟨tu, htu⟩ : ∃ tu, Dg os (k : Int) = tu := ⟨_, rfl⟩
      obtain ⟨xs, hxs⟩ : ∃ xs, ((List.range k).map fun (x : Nat) => imF os ps im x) = xs := ⟨_, rfl⟩
      have hxl : xs.length = k := by rw [← hxs]; simp
      rw [hxs] at hO HS
      rw [htu] at hTU hdl hdr HS
      have HD := hide hdr
      have HM := hide hdm
      rw [HL.out] at HS hdl
      clear htu hdr hdm hxs
      go_wp2_with fail
      refine hTU.out.mono ?_
      rintro e w5 ⟨v, rfl, hOt, hb5⟩
      have hti : ∀ y ∈ tu, i64ok y := fun y hy => by
        obtain ⟨j, hj, rfl⟩ := List.getElem_of_mem hy
        have := HD.out j (by rw [HL.out]; omega)
        have := HM.out j (by rw [HL.out]; omega)
        rw [gi_ext hj]
        exact ⟨by omega, by omega⟩
      obtain ⟨At, ct, rfl, hT⟩ := hOt.sl hti
      rw [hdl] at hT ⊢
      have hO5 := hO.below hb5
      have hB5 := hBe.trans (hb5.mono hsz)
      have bN5 := bN.all hb5
      have hs5 := hB5.size
      have h2' := (h2.below hB5).more hs5
      have h3' := (h3.below hB5).more hs5
      have hr0 := imT_rng hG2 tu im 0
      have hbn := bN5.lt
      clear hTU hOt hO hBe bN hb5 hsz
      go_wp2_with fail
      have q0 := bN5.cell 0
      have q1 := bN5.cell 1
      have q2 := bN5.cell 2
      go_loopw [9, 22] (fun ov i wx => ∃ p : Nat, p ≤ L ∧ i = .int .i64 p ∧ ov = .int .i64 (imT ps tu im p) ∧ Below w5.heap.size w5 wx) (fun _ i _ => L - (intOf i).toNat)
      case atStart => exact ⟨0, by omega, rfl, rfl, Below.refl _ _⟩
      case round =>
        obtain ⟨p, hp, rfl, rfl, hBe⟩ := hrel
        have hsz := hBe.size
        by_cases hlp : p < L
        · obtain ⟨b, off, rfl, hb, hc⟩ := hT.at_ (by omega)
          have c1 := (hBe.cell (p := ⟨b, off + p, none⟩) hb).trans (hc p hlp)
          obtain ⟨b3, off3, rfl, hb3, hc3⟩ := h3'.at_ (by omega)
          clear hc
          have r1 := HD.out p (by rw [HL.out]; omega)
          have r2 := HM.out p (by rw [HL.out]; omega)
          have r3 := hi _ (gi_mem (show p < im.length by omega))
          have HSi := hide (show imT ps tu im (p + 1) = addT ps (gi im p) (gi tu p).toNat (imT ps tu im p) from rfl)
          have hr := imT_rng hG2 tu im p
          obtain ⟨t, ht⟩ : ∃ t : Nat, gi tu p = t := ⟨(gi tu p).toNat, by omega⟩
          obtain ⟨y, hy⟩ : ∃ y, gi im p = y := ⟨_, rfl⟩
          obtain ⟨o, ho⟩ : ∃ o, imT ps tu im p = o := ⟨_, rfl⟩
          rw [ht, hy, ho, Int.toNat_natCast] at HSi
          rw [ht] at c1 r1
          rw [hy] at r3
          rw [ho] at hr ⊢
          have ht16 : t ≤ 16 := by omega
          have HC := hide (show w5.cell? ⟨b3, off3 + p, none⟩ = some (.int .i64 y) by rw [← hy]; exact hc3 p (by omega))
          clear ht hy ho hc3
          go_wp2_with fail
          clear c1
          go_loopw [9, 28] (fun ov i wx => ∃ j : Nat, j ≤ t ∧ i = .int .i64 j ∧ ov = .int .i64 (addT ps y j o) ∧ Below w5.heap.size w5 wx) (fun _ i _ => t - (intOf i).toNat)
          case atStart => exact ⟨0, by omega, rfl, rfl, hBe⟩
          case round =>
            clear hBe hsz
            obtain ⟨j, hj, rfl, rfl, hBe⟩ := hrel
            have hsz := hBe.size
            have hra := addT_rng hG2 y j hr.1 hr.2
            have HSn := hide (show addT ps y (j + 1) o = Ar ps (addT ps y j o) y from rfl)
            obtain ⟨a, ha⟩ : ∃ a, addT ps y j o = a := ⟨_, rfl⟩
            rw [ha] at hra HSn ⊢
            have HA := hide ha
            clear ha
            by_cases hjt : j < t
            · have i0 : (0 : Int) ≤ p := by omega
              have i1 : (p : Int) < L := by omega
              have i2 : (p : Int) < (im.length : Int) := by omega
              go_wp2_with fail
              refine wp_region_be [0, 1, 2, 3, 4, 5, 6, 7] 7 w5.heap.size w5 (by kernel_rfl) (by kernel_rfl) (by kernel_rfl) (fun _ _ _ _ _ h => h) hBe (fun wd hBe => ?_)
              repeat (first | (apply ord_tk rfl (by rfl) (by rfl) (by rfl); (focus (intro wx hSw; have s0 := (hSw.cell (p := ⟨w.heap.size, 0, none⟩) hbn).trans q0; have s1 := (hSw.cell (p := ⟨w.heap.size, 1, none⟩) hbn).trans q1; have s2 := (hSw.cell (p := ⟨w.heap.size, 2, none⟩) hbn).trans q2; have s3 := (hSw.cell (p := ⟨b3, off3 + p, none⟩) hb3).trans HC.out; go_simp; (try with_reducible rfl))); (try simp only [Act.put, List.setIfInBounds_toArray, List.set_cons_zero, List.set_cons_succ])) | (apply ord_skip rfl (by rfl) (by rfl) (fun _ => hBe); (try simp only [Act.put, List.setIfInBounds_toArray, List.set_cons_zero, List.set_cons_succ])))
              refine ord_do rfl (by rfl) (by rfl) (fun K hK => ?_)
              go_simp
              refine (plus_any _ _ _ _ _ _ ps a y ((h2'.below hBe).more hBe.size) hG2 (by omega) (by omega) (by omega) (by omega)).mono ?_
              rintro e wd' ⟨rfl, hwd⟩
              replace hBe := hBe.trans (hwd.mono hBe.size)
              clear hwd
              refine hK.out _ _ (fun _ => hBe) ?_
              (try simp only [Act.put, List.setIfInBounds_toArray, List.set_cons_zero, List.set_cons_succ])
              clear hK K
              repeat (first | (apply ord_tk rfl (by rfl) (by rfl) (by rfl); (focus (intro wx hSw; skip; go_simp; (try with_reducible rfl))); (try simp only [Act.put, List.setIfInBounds_toArray, List.set_cons_zero, List.set_cons_succ])) | (apply ord_skip rfl (by rfl) (by rfl) (fun _ => hBe); (try simp only [Act.put, List.setIfInBounds_toArray, List.set_cons_zero, List.set_cons_succ])))
              refine ord_do rfl (by rfl) (by rfl) (fun K hK => ?_)
              go_simp
              refine hK.out _ _ (fun h => absurd h (by omega)) ?_
              (try simp only [Act.put, List.setIfInBounds_toArray, List.set_cons_zero, List.set_cons_succ])
              clear hK K
              refine ord_nil ?_
              obtain ⟨z, hz⟩ : ∃ z, Ar ps a y = z := ⟨_, rfl⟩
              rw [hz] at HSn ⊢
              clear hz
              go_wp2_with fail
              go_roundw
              case rel => exact ⟨j + 1, by omega, by go_num, by rw [HSn.out], hBe⟩
              case measure => simp [intOf] <;> omega
            · obtain rfl : j = t := by omega
              go_wp2_with fail
              go_roundw
              case rel => exact ⟨p + 1, by omega, by go_num, by rw [HSi.out, HA.out], hBe⟩
              case measure => simp [intOf] <;> omega
        · obtain rfl : p = L := by omega
          have hlen : xs.length = k := hxl
          have hr := imT_rng hG2 tu im p
          obtain ⟨z, hz⟩ : ∃ z, imT ps tu im p = z := ⟨_, rfl⟩
          rw [hz] at HS hr ⊢
          have hO6 := hO5.below hBe
          have hB6 := hB5.trans (hBe.mono hs5)
          have bN6 := bN5.all hBe
          have hs6 := hB6.size
          clear hz hO5 hB5 bN5 q0 q1 q2
          go_wp2_with (at_builtin; refine list_push _ rfl _ _ rfl w.heap.size _ _ rfl (hO6.alloc _) z wr.heap.size _ rfl (Blk.new _ _ _) (by rw [hlen]; omega) (by simp; omega) (by simp) ?_; intro g cap w8 hP)
          have hown := hP.own
          rw [← HS.out, hlen] at hown
          have HOw := hide hown
          have hbp := hP.below (hO6.alloc _) (by simp; omega)
          have hB7 := (hB6.alloc hs6 (.cells #[.int .i64 z] 2)).trans hbp
          have bN7 := hP.blk (hO6.alloc _) (bN6.alloc _) (by decide)
          clear hown hP hO6 hlen
          go_roundw
          case rel => exact ⟨k + 1, by omega, by go_num, HOw.out, bN7, hB7⟩
          case measure => simp [intOf] <;> omega
    · obtain rfl : k = M := by omega
      go_wp2_with fail
      go_ret
      exact ⟨_, rfl, hO, hBe⟩
structure TwoOk (T : Two) : Prop where
  M : IsM T.os T.D T.vs
  N : IsM T.ps T.E T.us
  len : T.vs.length = T.us.length
theorem TwoOk.n16 {T : Two} (h : TwoOk T) : T.us.length ≤ 16 := h.N.ok.lt
theorem TwoOk.nps {T : Two} (h : TwoOk T) : prodL T.ps = T.us.length := h.N.ok.len.symm
theorem TwoOk.nos {T : Two} (h : TwoOk T) : prodL T.os = T.us.length := by rw [← h.len]; exact h.M.ok.len.symm
theorem TwoOk.im_rng {T : Two} (h : TwoOk T) (pre : List Int) (x : Nat) : 0 ≤ T.im pre x ∧ T.im pre x < T.us.length := by
  have := imF_rng (os := T.os) (ps := T.ps) h.N.ok.g pre x
  rw [h.nps] at this; exact this
theorem bool_info : (Tryz.prog.info? 4).map (fun i => (i.zero, i.size, i.bytes)) = some (some (.bool false), 1, 1) := by kernel_rfl
theorem made_at {v : Value} {N j : Nat} (h : j < N) : (madeCells #[v] N)[j]? = some v := by
  rw [← Array.getElem?_toList, toList_madeCells_one, List.getElem?_replicate, if_pos h]
/-- Which images have been met. -/
def MetB (T : Two) (pre : List Int) (k : Nat) (cs : Array Value) : Prop := cs.size = T.us.length ∧ ∀ j : Nat, j < T.us.length → cs[j]? = some (.bool (hasB (T.ims pre k) j))
theorem MetB.step {T : Two} {pre : List Int} {k y : Nat} {cs : Array Value} (h : MetB T pre k cs) (hy : y < T.us.length) (he : T.im pre k = y) : MetB T pre (k + 1) (cs.setIfInBounds y (.bool true)) := by
  refine ⟨by simp [h.1], fun j hj => ?_⟩
  rw [Array.getElem?_setIfInBounds]
  have e : hasB (T.ims pre (k + 1)) j = (hasB (T.ims pre k) j || ((y : Int) == (j : Int))) := by
    rw [T.ims_succ, he]; simp [hasB]
  by_cases hjy : y = j
  · subst hjy
    rw [if_pos rfl, if_pos (by rw [h.1]; exact hy), e]
    simp
  · rw [if_neg hjy, h.2 j hj, e]
    have : ((y : Int) == (j : Int)) = false := by rw [beq_eq_false_iff_ne]; omega
    rw [this, Bool.or_false]
set_option maxHeartbeats 4000000 in
theorem l10Isometry_any (w : World) (T : Two) (hT : TwoOk T) (A : Option Addr) (n c : Nat) (B : Option Addr) (m k : Nat) (A2 : Option Addr) (n2 c2 : Nat) (B2 : Option Addr) (m2 k2 : Nat) (A3 : Option Addr) (n3 c3 : Nat) (pre : List Int)
    (h : Sl w w.heap.size A n c T.os) (h' : Sl w w.heap.size B m k T.vs) (g : Sl w w.heap.size A2 n2 c2 T.ps) (g' : Sl w w.heap.size B2 m2 k2 T.us) (h3 : Sl w w.heap.size A3 n3 c3 pre) (hl : pre.length = T.os.length) (hi : ∀ y ∈ pre, 0 ≤ y ∧ y < T.us.length) :
    Calls Tryz.prog 98 #[.agg #[.slice A n c, .int .i64 T.D, .slice B m k], .agg #[.slice A2 n2 c2, .int .i64 T.E, .slice B2 m2 k2], .slice A3 n3 c3] w (Re w (.bool (T.iso pre))) := by
  obtain ⟨i0, hi0, hz0, hz1, hz2⟩ := info_parts bool_info
  have h16 := hT.n16
  have hD1 := hT.M.ok.d1
  have hD2 := hT.M.ok.d2
  have hE1 := hT.N.ok.d1
  have hE2 := hT.N.ok.d2
  have hmk := fun W => run_make (P := Tryz.prog) (w := W) 119 4 i0 (.bool false) Tryz.underlying119 hi0 hz0 .i64 .i64 T.us.length T.us.length (by omega) (by omega) (by rw [hz2]; omega) (by omega)
  simp only [hz1, Int.toNat_natCast, Nat.mul_one] at hmk
  have hIso := hide (show T.iso pre = T.goes pre T.us.length from rfl)
  obtain ⟨b, hb⟩ : ∃ b, T.iso pre = b := ⟨_, rfl⟩
  rw [hb] at hIso ⊢
  clear hb
  obtain rfl := g'.len
  obtain rfl : T.us.length = m := by rw [← hT.len]; exact h'.len
  go_enter Tryz.func98, Tryz.ntmps98
  go_wp2_with fail
  have bm0 : Blk (((w.alloc (.cells #[.slice A n c, .int .i64 T.D, .slice B T.us.length k] 26)).alloc (.cells #[.slice A2 n2 c2, .int .i64 T.E, .slice B2 T.us.length k2] 26)).alloc (.cells (madeCells #[.bool false] T.us.length) 4)) w.heap.size 26 #[.slice A n c, .int .i64 T.D, .slice B T.us.length k] := ((Blk.new _ _ _).alloc _).alloc _
  have bn0 : Blk (((w.alloc (.cells #[.slice A n c, .int .i64 T.D, .slice B T.us.length k] 26)).alloc (.cells #[.slice A2 n2 c2, .int .i64 T.E, .slice B2 T.us.length k2] 26)).alloc (.cells (madeCells #[.bool false] T.us.length) 4)) (w.heap.size + 1) 26 #[.slice A2 n2 c2, .int .i64 T.E, .slice B2 T.us.length k2] := (Blk.new' _ _ _ _ (by simp)).alloc _
  have bc0 : Blk (((w.alloc (.cells #[.slice A n c, .int .i64 T.D, .slice B T.us.length k] 26)).alloc (.cells #[.slice A2 n2 c2, .int .i64 T.E, .slice B2 T.us.length k2] 26)).alloc (.cells (madeCells #[.bool false] T.us.length) 4)) (w.heap.size + 1 + 1) 4 (madeCells #[.bool false] T.us.length) := Blk.new' _ _ _ _ (by simp)
  have hB0 : Below w.heap.size w (((w.alloc (.cells #[.slice A n c, .int .i64 T.D, .slice B T.us.length k] 26)).alloc (.cells #[.slice A2 n2 c2, .int .i64 T.E, .slice B2 T.us.length k2] 26)).alloc (.cells (madeCells #[.bool false] T.us.length) 4)) := (by repeat (first | assumption | exact Below.refl _ _ | apply below_drewN | apply Below.drew | apply Below.alloc | apply Below.setCell | omega | (focus (simp; done)) | (focus (simp; omega))))
  have hM0 := hide (show MetB T pre 0 (madeCells #[.bool false] T.us.length) from ⟨size_madeCells _ _, fun j hj => by rw [made_at hj]; rfl⟩)
  have hg0 := hide (show T.goes pre 0 = true from rfl)
  obtain ⟨N, hN⟩ : ∃ N, T.us.length = N := ⟨_, rfl⟩
  have HN := hide hN
  obtain ⟨cs0, hcs0⟩ : ∃ cs0, madeCells #[Value.bool false] T.us.length = cs0 := ⟨_, rfl⟩
  obtain ⟨W, hW⟩ : ∃ W, ((w.alloc (.cells #[.slice A n c, .int .i64 T.D, .slice B T.us.length k] 26)).alloc (.cells #[.slice A2 n2 c2, .int .i64 T.E, .slice B2 T.us.length k2] 26)).alloc (.cells (madeCells #[.bool false] T.us.length) 4) = W := ⟨_, rfl⟩
  rw [hW] at bm0 bn0 bc0 hB0 ⊢
  rw [hcs0] at bc0 hM0
  rw [hN] at bm0 bn0 h16 h' g' hi hIso ⊢
  clear hW hmk hcs0 hN
  go_loopw [8] (fun x wr => ∃ (q : Nat) (cs : Array Value), q ≤ N ∧ x = .int .i64 q ∧ Hid (T.goes pre q = true) ∧ Hid (MetB T pre q cs) ∧ Blk wr (w.heap.size + 1 + 1) 4 cs ∧ Blk wr w.heap.size 26 #[.slice A n c, .int .i64 T.D, .slice B N k] ∧ Blk wr (w.heap.size + 1) 26 #[.slice A2 n2 c2, .int .i64 T.E, .slice B2 N k2] ∧ Below w.heap.size w wr) (fun x _ => N - (intOf x).toNat)
  case atStart => exact ⟨0, cs0, by omega, rfl, hg0, hM0, bc0, bm0, bn0, hB0⟩
  case round =>
    clear bm0 bn0 bc0 hB0 hM0 hg0
    obtain ⟨q, cs, hq, rfl, hgo, hMe, bc, bm, bn, hBe⟩ := hrel
    have hsz := hBe.size
    have r0 := bm.cell 0
    have r1 := bm.cell 1
    have r2 := bm.cell 2
    have s0 := bn.cell 0
    have s1 := bn.cell 1
    have s2 := bn.cell 2
    by_cases hlt : q < N
    · have hr := hT.im_rng pre q
      rw [HN.out] at hr
      have hIm := hide (l10Image_any wr w.heap.size A n c T.os A2 n2 c2 T.ps A3 n3 c3 pre q (h.below hBe) (g.below hBe) (h3.below hBe) hsz hT.M.ok.g hT.N.ok.g hl (fun y hy => by have := hi y hy; omega) (by omega))
      have HG := hide (T.goes_succ pre q)
      have hno := hide (fun hh => T.goes_no (pre := pre) (j := q) (k := N) hlt hh)
      obtain ⟨y, hy⟩ : ∃ y : Nat, T.im pre q = y := ⟨(T.im pre q).toNat, by omega⟩
      have HY := hide hy
      have hyN : y < N := by omega
      have hM2 := hMe.out.2 y (by rw [HN.out]; exact hyN)
      rw [← hy] at hM2
      rw [show imF T.os T.ps pre (q : Int) = (y : Int) from hy] at hIm
      rw [hgo.out, Bool.true_and] at HG
      obtain ⟨mt, hmt⟩ : ∃ mt, hasB (T.ims pre q) (T.im pre q) = mt := ⟨_, rfl⟩
      rw [hmt] at HG hno hM2
      have cy := (bc.cell y).trans hM2
      have HM2 := hide hM2
      clear hmt hM2
      cases mt with
      | true =>
        have hF := hide (hno.out (by simp))
        go_wp2_with fail
        clear r0 r1 r2 s0 s1 s2 cy
        refine hIm.out.mono ?_
        rintro e w5 ⟨rfl, hb5⟩
        have cy := (bc.all hb5).cell y
        rw [HM2.out] at cy
        have hB5 := hBe.trans (hb5.mono hsz)
        go_wp2_with fail
        go_ret
        exact ⟨by rw [hIso.out, hF.out]; rfl, hB5⟩
      | false =>
        have hAl := hide (fun (W : World) (hW : Below w.heap.size w W) => l10Alike_any W (.slice A n c) T.D B N k T.vs (.slice A2 n2 c2) T.E B2 N k2 T.us q y ((h'.below hW).more hW.size) ((g'.below hW).more hW.size) ⟨hD1, hD2⟩ ⟨hE1, hE2⟩ (fun v hv => hT.M.ok.rng v hv) (fun v hv => hT.N.ok.rng v hv) (by rw [hT.len, HN.out]; exact hlt) (by rw [HN.out]; exact hyN) A n c rfl A2 n2 c2 rfl)
        obtain ⟨al, hal⟩ : ∃ al, T.al q (T.im pre q) = al := ⟨_, rfl⟩
        have hal2 : alB T.D T.E (gi T.vs q) (gi T.us y) = al := by rw [← hal, hy]; rfl
        rw [hal2] at hAl
        rw [hal] at HG hno
        clear hal hal2
        go_wp2_with fail
        clear r0 r1 r2 s0 s1 s2 cy
        refine hIm.out.mono ?_
        rintro e w5 ⟨rfl, hb5⟩
        have bc5 := bc.all hb5
        have bm5 := bm.all hb5
        have bn5 := bn.all hb5
        have cy := bc5.cell y
        rw [HM2.out] at cy
        have r0 := bm5.cell 0
        have r1 := bm5.cell 1
        have r2 := bm5.cell 2
        have s0 := bn5.cell 0
        have s1 := bn5.cell 1
        have s2 := bn5.cell 2
        have hB5 := hBe.trans (hb5.mono hsz)
        have hyi : (y : Int) < (N : Int) := by omega
        have hy0 : (0 : Int) ≤ (y : Int) := by omega
        clear bc bm bn hBe hsz
        go_wp2_with fail
        clear r0 r1 r2 s0 s1 s2 cy
        refine (hAl.out _ hB5).mono ?_
        rintro e w6 ⟨rfl, hb6⟩
        have hB6 := hB5.trans (hb6.mono hB5.size)
        have bc6 := bc5.all hb6
        have bm6 := bm5.all hb6
        have bn6 := bn5.all hb6
        have cy := bc6.cell y
        rw [HM2.out] at cy
        have fy := bc6.frozen y
        cases al with
        | false =>
          have hF := hide (hno.out (by simp))
          go_wp2_with fail
          go_ret
          exact ⟨by rw [hIso.out, hF.out]; rfl, hB6⟩
        | true =>
          have hG1 := hide (show T.goes pre (q + 1) = true by rw [HG.out]; rfl)
          have hM1 := hide (hMe.out.step (by rw [HN.out]; exact hyN) HY.out)
          clear HG hno
          go_wp2_with fail
          clear cy fy
          have hsz6 := hB6.size
          go_roundw
          case rel => exact ⟨q + 1, _, by omega, by go_num, hG1, hM1, bc6.store y _, bm6.far (by show w.heap.size ≠ w.heap.size + 1 + 1; omega) _, bn6.far (by show w.heap.size + 1 ≠ w.heap.size + 1 + 1; omega) _, hB6.setCell (by show w.heap.size ≤ w.heap.size + 1 + 1; omega) _⟩
          case measure => simp [intOf] <;> omega
    · obtain rfl : q = N := by omega
      have hF := hide (show b = true by rw [hIso.out, hgo.out])
      go_wp2_with fail
      go_ret
      exact ⟨by rw [hF.out]; rfl, hBe⟩
theorem Sl.headI {w : World} {B : Nat} {A : Option Addr} {n c : Nat} {xs : List Int} (h : Sl w B A n c xs) (t : Nat) (ht : t ≤ n) : Sl w B A t c (xs.take t) := by
  refine ⟨by rw [List.length_take, h.len]; omega, by have := h.cap; omega, fun x hx => h.rng x (List.mem_of_mem_take hx), fun hp => ?_, h.nil_⟩
  obtain ⟨b, off, e, hb, hc⟩ := h.at_ (by omega)
  refine ⟨b, off, e, hb, fun k hk => ?_⟩
  have e2 : gi (xs.take t) k = gi xs k := by unfold gi; rw [List.getD_eq_getElem?_getD, List.getD_eq_getElem?_getD, List.getElem?_take, if_pos hk]
  rw [e2]
  exact hc k (by omega)
set_option maxHeartbeats 4000000 in
theorem isIso_any (w : World) (T : Two) (hT : TwoOk T) (A : Option Addr) (n c : Nat) (B : Option Addr) (m k : Nat) (A2 : Option Addr) (n2 c2 : Nat) (B2 : Option Addr) (m2 k2 : Nat) (A3 : Option Addr) (n3 c3 : Nat) (pre : List Int) (Xm Xn Xi Xv : Nat)
    (h : Sl w w.heap.size A n c T.os) (h' : Sl w w.heap.size B m k T.vs) (g : Sl w w.heap.size A2 n2 c2 T.ps) (g' : Sl w w.heap.size B2 m2 k2 T.us) (h3 : Sl w w.heap.size A3 n3 c3 pre) (hl : pre.length = T.os.length) (hi : ∀ y ∈ pre, 0 ≤ y ∧ y < T.us.length)
    (bm : Blk w Xm 26 #[.slice A n c, .int .i64 T.D, .slice B m k]) (bn : Blk w Xn 26 #[.slice A2 n2 c2, .int .i64 T.E, .slice B2 m2 k2]) (bi : Blk w Xi 24 #[.slice A3 n3 c3]) (bv : Blk w Xv 81 #[.func (.func 60) #[] #[]]) :
    Calls Tryz.prog 61 #[.pointer (some ⟨Xm, 0, none⟩), .pointer (some ⟨Xn, 0, none⟩), .pointer (some ⟨Xi, 0, none⟩), .pointer (some ⟨Xv, 0, none⟩)] w (Re w (.bool (T.iso pre))) := by
  have h16 := hT.n16
  have hD1 := hT.M.ok.d1
  have hD2 := hT.M.ok.d2
  have hE1 := hT.N.ok.d1
  have hE2 := hT.N.ok.d2
  have hIso := hide (show T.iso pre = T.goes pre T.us.length from rfl)
  obtain ⟨b, hb⟩ : ∃ b, T.iso pre = b := ⟨_, rfl⟩
  rw [hb] at hIso ⊢
  obtain rfl := g'.len
  obtain rfl : T.us.length = m := by rw [← hT.len]; exact h'.len
  have hIB := imagesBy_any w A n c T.os A2 n2 c2 T.ps T.E B2 T.us.length k2 A3 n3 c3 pre h g h3 hT.M.ok.g hT.N.ok.g hl (fun y hy => by have := hi y hy; omega)
  rw [show (prodL T.os).toNat = T.us.length by rw [hT.nos]; rfl, show ((List.range T.us.length).map fun (x : Nat) => imF T.os T.ps pre x) = T.ims pre T.us.length from rfl] at hIB
  have HIB := hide hIB
  obtain ⟨N, hN⟩ : ∃ N, T.us.length = N := ⟨_, rfl⟩
  have HN := hide hN
  rw [hN] at bm bn h16 h' g' hi hIso HIB
  have hlm := bm.lt
  have hln := bn.lt
  have hlv := bv.lt
  have r0 := bm.cell 0
  have r1 := bm.cell 1
  have r2 := bm.cell 2
  have s0 := bn.cell 0
  have s1 := bn.cell 1
  have s2 := bn.cell 2
  have x0 := bi.cell 0
  clear hb hIB hN
  go_enter Tryz.func61, Tryz.ntmps61
  go_wp2_with fail
  refine HIB.out.mono ?_
  rintro e w1 ⟨v, rfl, hO, hb1⟩
  have hir : ∀ y ∈ T.ims pre N, i64ok y := fun y hy => by
    obtain ⟨x, _, rfl⟩ := List.mem_map.1 hy
    have := hT.im_rng pre x
    rw [HN.out] at this
    exact ⟨by omega, by omega⟩
  obtain ⟨Aa, ca, rfl, hS⟩ := hO.sl hir
  rw [T.ims_len] at hS ⊢
  have bm1 := bm.all hb1
  have bn1 := bn.all hb1
  have bv1 := bv.all hb1
  have hs1 := hb1.size
  have hlm1 := bm1.lt
  have hln1 := bn1.lt
  have hlv1 := bv1.lt
  have r0 := bm1.cell 0
  have r1 := bm1.cell 1
  have r2 := bm1.cell 2
  have s0 := bn1.cell 0
  have s1 := bn1.cell 1
  have s2 := bn1.cell 2
  have v0 := bv1.cell 0
  have hg0 := hide (show T.goes pre 0 = true from rfl)
  have h'1 := (h'.below hb1).more hs1
  have g'1 := (g'.below hb1).more hs1
  clear hO HIB bm bn bv bi x0
  go_wp2_with fail
  go_loopw [15] (fun i wr => ∃ q : Nat, q ≤ N ∧ i = .int .i64 q ∧ Hid (T.goes pre q = true) ∧ Below w1.heap.size w1 wr) (fun i _ => N - (intOf i).toNat)
  case atStart => exact ⟨0, by omega, rfl, hg0, Below.refl _ _⟩
  case round =>
    clear hg0
    obtain ⟨q, hq, rfl, hgo, hBe⟩ := hrel
    have hsz := hBe.size
    by_cases hlt : q < N
    · obtain ⟨ab, ao, rfl, hab, hac⟩ := hS.at_ (by omega)
      have c1 := (hBe.cell (p := ⟨ab, ao + q, none⟩) hab).trans (hac q hlt)
      rw [T.ims_at hlt] at c1
      have hr := hT.im_rng pre q
      rw [HN.out] at hr
      have HG := hide (T.goes_succ pre q)
      have hno := hide (fun hh => T.goes_no (pre := pre) (j := q) (k := N) hlt hh)
      have hTk := hide (T.ims_take (pre := pre) (show q ≤ N by omega))
      obtain ⟨y, hy⟩ : ∃ y : Nat, T.im pre q = y := ⟨(T.im pre q).toNat, by omega⟩
      have HY := hide hy
      have hyN : y < N := by omega
      have hq0 : gi T.vs q < T.D ∧ 0 ≤ gi T.vs q := by have := hT.M.ok.rng _ (gi_mem (show q < T.vs.length by rw [hT.len, HN.out]; exact hlt)); omega
      have hq1 : gi T.us y < T.E ∧ 0 ≤ gi T.us y := by have := hT.N.ok.rng _ (gi_mem (show y < T.us.length by rw [HN.out]; exact hyN)); omega
      have hVa := hide (fun (W : World) (hW : Below w1.heap.size w1 W) => valF_any W T.D B N k T.vs q ((h'1.below hW).more hW.size) ⟨hD1, hD2⟩ (fun v hv => hT.M.ok.rng v hv) (by rw [hT.len, HN.out]; exact hlt) A n c)
      have hVb := hide (fun (W : World) (hW : Below w1.heap.size w1 W) => valF_any W T.E B2 N k2 T.us y ((g'1.below hW).more hW.size) ⟨hE1, hE2⟩ (fun v hv => hT.N.ok.rng v hv) (by rw [HN.out]; exact hyN) A2 n2 c2)
      have hAl := hide (al_prog (a := gi T.vs q) (b := gi T.us y) (show (0 : Int) < 55440 by omega) (ord_div hT.M.ord hD1) (ord_div hT.N.ord hE1))
      obtain ⟨va, hva⟩ : ∃ v, gi T.vs q * (55440 / T.D) = v := ⟨_, rfl⟩
      obtain ⟨vb, hvb⟩ : ∃ v, gi T.us y * (55440 / T.E) = v := ⟨_, rfl⟩
      rw [hva] at hVa hAl
      rw [hvb] at hVb hAl
      have hale : T.al q (T.im pre q) = (va == vb) := by rw [hAl.out, hy]; rfl
      rw [hgo.out, Bool.true_and, hale, hy] at HG
      rw [hale, hy] at hno
      rw [hy] at c1
      clear hva hvb hale hy hAl hac
      have hqc : q ≤ ca := by have := hS.cap; omega
      have hH := hide (hS.headI q (by omega))
      rw [hTk.out] at hH
      go_wp2_with fail
      clear c1
      cases hab2 : (va == vb) with
      | false =>
        have hbn : (va != vb) = true := by simp [bne, hab2]
        rw [hab2] at HG hno
        have hF := hide (hno.out (by simp))
        refine wp_region_be [0, 1, 2, 4, 5, 6, 3, 7, 8, 9, 10, 11, 12, 13, 14, 15] 16 w1.heap.size w1 (by kernel_rfl) (by kernel_rfl) (by kernel_rfl) (fun _ _ _ _ _ h => h) hBe (fun wd hBe => ?_)
        repeat (first | (apply ord_tk rfl (by rfl) (by rfl) (by rfl); (focus (intro wx hSw; have a0 := (hSw.cell (p := ⟨Xm, 0, none⟩) hlm1).trans r0; have a1 := (hSw.cell (p := ⟨Xm, 1, none⟩) hlm1).trans r1; have a2 := (hSw.cell (p := ⟨Xm, 2, none⟩) hlm1).trans r2; have a3 := (hSw.cell (p := ⟨Xn, 0, none⟩) hln1).trans s0; have a4 := (hSw.cell (p := ⟨Xn, 1, none⟩) hln1).trans s1; have a5 := (hSw.cell (p := ⟨Xn, 2, none⟩) hln1).trans s2; have a6 := (hSw.cell (p := ⟨Xv, 0, none⟩) hlv1).trans v0; go_simp; (try with_reducible rfl))); (try simp only [Act.put, List.setIfInBounds_toArray, List.set_cons_zero, List.set_cons_succ])) | (apply ord_skip rfl (by rfl) (by rfl) (fun _ => hBe); (try simp only [Act.put, List.setIfInBounds_toArray, List.set_cons_zero, List.set_cons_succ])))
        refine ord_do rfl (by rfl) (by rfl) (fun K hK => ?_)
        go_simp
        refine (hVa.out _ hBe).mono ?_
        rintro e wd' ⟨rfl, hwd⟩
        replace hBe := hBe.trans (hwd.mono hBe.size)
        clear hwd
        refine hK.out _ _ (fun _ => hBe) ?_
        (try simp only [Act.put, List.setIfInBounds_toArray, List.set_cons_zero, List.set_cons_succ])
        clear hK K
        repeat (first | (apply ord_tk rfl (by rfl) (by rfl) (by rfl); (focus (intro wx hSw; have a0 := (hSw.cell (p := ⟨Xm, 0, none⟩) hlm1).trans r0; have a1 := (hSw.cell (p := ⟨Xm, 1, none⟩) hlm1).trans r1; have a2 := (hSw.cell (p := ⟨Xm, 2, none⟩) hlm1).trans r2; have a3 := (hSw.cell (p := ⟨Xn, 0, none⟩) hln1).trans s0; have a4 := (hSw.cell (p := ⟨Xn, 1, none⟩) hln1).trans s1; have a5 := (hSw.cell (p := ⟨Xn, 2, none⟩) hln1).trans s2; have a6 := (hSw.cell (p := ⟨Xv, 0, none⟩) hlv1).trans v0; go_simp; (try with_reducible rfl))); (try simp only [Act.put, List.setIfInBounds_toArray, List.set_cons_zero, List.set_cons_succ])) | (apply ord_skip rfl (by rfl) (by rfl) (fun _ => hBe); (try simp only [Act.put, List.setIfInBounds_toArray, List.set_cons_zero, List.set_cons_succ])))
        refine ord_do rfl (by rfl) (by rfl) (fun K hK => ?_)
        go_simp
        refine (hVb.out _ hBe).mono ?_
        rintro e wd' ⟨rfl, hwd⟩
        replace hBe := hBe.trans (hwd.mono hBe.size)
        clear hwd
        refine hK.out _ _ (fun _ => hBe) ?_
        (try simp only [Act.put, List.setIfInBounds_toArray, List.set_cons_zero, List.set_cons_succ])
        clear hK K
        repeat (first | (apply ord_tk rfl (by rfl) (by rfl) (by rfl); (focus (intro wx hSw; have a0 := (hSw.cell (p := ⟨Xm, 0, none⟩) hlm1).trans r0; have a1 := (hSw.cell (p := ⟨Xm, 1, none⟩) hlm1).trans r1; have a2 := (hSw.cell (p := ⟨Xm, 2, none⟩) hlm1).trans r2; have a3 := (hSw.cell (p := ⟨Xn, 0, none⟩) hln1).trans s0; have a4 := (hSw.cell (p := ⟨Xn, 1, none⟩) hln1).trans s1; have a5 := (hSw.cell (p := ⟨Xn, 2, none⟩) hln1).trans s2; have a6 := (hSw.cell (p := ⟨Xv, 0, none⟩) hlv1).trans v0; go_simp; (try with_reducible rfl))); (try simp only [Act.put, List.setIfInBounds_toArray, List.set_cons_zero, List.set_cons_succ])) | (apply ord_skip rfl (by rfl) (by rfl) (fun _ => hBe); (try simp only [Act.put, List.setIfInBounds_toArray, List.set_cons_zero, List.set_cons_succ])))
        refine ord_nil ?_
        go_wp2_with fail
        go_ret
        exact ⟨by rw [hIso.out, hF.out]; rfl, hb1.trans (hBe.mono hs1)⟩
      | true =>
        have hbn : (va != vb) = false := by simp [bne, hab2]
        rw [hab2, Bool.true_and] at HG
        rw [hab2, Bool.true_and] at hno
        refine wp_region_be [0, 1, 2, 4, 5, 6, 3, 7, 8, 9, 10, 11, 12, 13, 14, 15] 16 w1.heap.size w1 (by kernel_rfl) (by kernel_rfl) (by kernel_rfl) (fun _ _ _ _ _ h => h) hBe (fun wd hBe => ?_)
        repeat (first | (apply ord_tk rfl (by rfl) (by rfl) (by rfl); (focus (intro wx hSw; have a0 := (hSw.cell (p := ⟨Xm, 0, none⟩) hlm1).trans r0; have a1 := (hSw.cell (p := ⟨Xm, 1, none⟩) hlm1).trans r1; have a2 := (hSw.cell (p := ⟨Xm, 2, none⟩) hlm1).trans r2; have a3 := (hSw.cell (p := ⟨Xn, 0, none⟩) hln1).trans s0; have a4 := (hSw.cell (p := ⟨Xn, 1, none⟩) hln1).trans s1; have a5 := (hSw.cell (p := ⟨Xn, 2, none⟩) hln1).trans s2; have a6 := (hSw.cell (p := ⟨Xv, 0, none⟩) hlv1).trans v0; go_simp; (try with_reducible rfl))); (try simp only [Act.put, List.setIfInBounds_toArray, List.set_cons_zero, List.set_cons_succ])) | (apply ord_skip rfl (by rfl) (by rfl) (fun _ => hBe); (try simp only [Act.put, List.setIfInBounds_toArray, List.set_cons_zero, List.set_cons_succ])))
        refine ord_do rfl (by rfl) (by rfl) (fun K hK => ?_)
        go_simp
        refine (hVa.out _ hBe).mono ?_
        rintro e wd' ⟨rfl, hwd⟩
        replace hBe := hBe.trans (hwd.mono hBe.size)
        clear hwd
        refine hK.out _ _ (fun _ => hBe) ?_
        (try simp only [Act.put, List.setIfInBounds_toArray, List.set_cons_zero, List.set_cons_succ])
        clear hK K
        repeat (first | (apply ord_tk rfl (by rfl) (by rfl) (by rfl); (focus (intro wx hSw; have a0 := (hSw.cell (p := ⟨Xm, 0, none⟩) hlm1).trans r0; have a1 := (hSw.cell (p := ⟨Xm, 1, none⟩) hlm1).trans r1; have a2 := (hSw.cell (p := ⟨Xm, 2, none⟩) hlm1).trans r2; have a3 := (hSw.cell (p := ⟨Xn, 0, none⟩) hln1).trans s0; have a4 := (hSw.cell (p := ⟨Xn, 1, none⟩) hln1).trans s1; have a5 := (hSw.cell (p := ⟨Xn, 2, none⟩) hln1).trans s2; have a6 := (hSw.cell (p := ⟨Xv, 0, none⟩) hlv1).trans v0; go_simp; (try with_reducible rfl))); (try simp only [Act.put, List.setIfInBounds_toArray, List.set_cons_zero, List.set_cons_succ])) | (apply ord_skip rfl (by rfl) (by rfl) (fun _ => hBe); (try simp only [Act.put, List.setIfInBounds_toArray, List.set_cons_zero, List.set_cons_succ])))
        refine ord_do rfl (by rfl) (by rfl) (fun K hK => ?_)
        go_simp
        refine (hVb.out _ hBe).mono ?_
        rintro e wd' ⟨rfl, hwd⟩
        replace hBe := hBe.trans (hwd.mono hBe.size)
        clear hwd
        refine hK.out _ _ (fun _ => hBe) ?_
        (try simp only [Act.put, List.setIfInBounds_toArray, List.set_cons_zero, List.set_cons_succ])
        clear hK K
        repeat (first | (apply ord_tk rfl (by rfl) (by rfl) (by rfl); (focus (intro wx hSw; have a0 := (hSw.cell (p := ⟨Xm, 0, none⟩) hlm1).trans r0; have a1 := (hSw.cell (p := ⟨Xm, 1, none⟩) hlm1).trans r1; have a2 := (hSw.cell (p := ⟨Xm, 2, none⟩) hlm1).trans r2; have a3 := (hSw.cell (p := ⟨Xn, 0, none⟩) hln1).trans s0; have a4 := (hSw.cell (p := ⟨Xn, 1, none⟩) hln1).trans s1; have a5 := (hSw.cell (p := ⟨Xn, 2, none⟩) hln1).trans s2; have a6 := (hSw.cell (p := ⟨Xv, 0, none⟩) hlv1).trans v0; go_simp; (try with_reducible rfl))); (try simp only [Act.put, List.setIfInBounds_toArray, List.set_cons_zero, List.set_cons_succ])) | (apply ord_skip rfl (by rfl) (by rfl) (fun _ => hBe); (try simp only [Act.put, List.setIfInBounds_toArray, List.set_cons_zero, List.set_cons_succ])))
        refine ord_do rfl (by rfl) (by rfl) (fun K hK => ?_)
        go_simp
        refine ((sContains_any _ w1.heap.size _ q ca (T.ims pre q) y (hH.out.below hBe) (by omega)).mono fun _ _ h => Qt.re h).mono ?_
        rintro e wd' ⟨rfl, hwd⟩
        replace hBe := hBe.trans (hwd.mono hBe.size)
        clear hwd
        refine hK.out _ _ (fun _ => hBe) ?_
        (try simp only [Act.put, List.setIfInBounds_toArray, List.set_cons_zero, List.set_cons_succ])
        clear hK K
        repeat (first | (apply ord_tk rfl (by rfl) (by rfl) (by rfl); (focus (intro wx hSw; have a0 := (hSw.cell (p := ⟨Xm, 0, none⟩) hlm1).trans r0; have a1 := (hSw.cell (p := ⟨Xm, 1, none⟩) hlm1).trans r1; have a2 := (hSw.cell (p := ⟨Xm, 2, none⟩) hlm1).trans r2; have a3 := (hSw.cell (p := ⟨Xn, 0, none⟩) hln1).trans s0; have a4 := (hSw.cell (p := ⟨Xn, 1, none⟩) hln1).trans s1; have a5 := (hSw.cell (p := ⟨Xn, 2, none⟩) hln1).trans s2; have a6 := (hSw.cell (p := ⟨Xv, 0, none⟩) hlv1).trans v0; go_simp; (try with_reducible rfl))); (try simp only [Act.put, List.setIfInBounds_toArray, List.set_cons_zero, List.set_cons_succ])) | (apply ord_skip rfl (by rfl) (by rfl) (fun _ => hBe); (try simp only [Act.put, List.setIfInBounds_toArray, List.set_cons_zero, List.set_cons_succ])))
        refine ord_nil ?_
        have hBf := hBe
        clear hBe
        cases hmt : hasB (T.ims pre q) y with
        | true =>
          rw [hmt] at hno
          have hF := hide (hno.out rfl)
          go_wp2_with fail
          go_ret
          exact ⟨by rw [hIso.out, hF.out]; rfl, hb1.trans (hBf.mono hs1)⟩
        | false =>
          rw [hmt] at HG
          have hG1 := hide (show T.goes pre (q + 1) = true by rw [HG.out]; rfl)
          clear HG hno hmt
          go_wp2_with fail
          go_roundw
          case rel => exact ⟨q + 1, by omega, by go_num, hG1, hBf⟩
          case measure => simp [intOf] <;> omega
    · obtain rfl : q = N := by omega
      have hF := hide (show b = true by rw [hIso.out, hgo.out])
      go_wp2_with fail
      go_ret
      exact ⟨by rw [hF.out]; rfl, hb1.trans (hBe.mono hs1)⟩
end Go.Proofs.YtonehmjoolflfaaGreatDoor
