
/- Owned rows whose rows change places and are written in place; the walks of the closure of rankModulo and of its search. -/
import Derived.Test.YtnhgflmmfppmnaaCD2
import Derived.Test.YtnhgflmmfppmnaaRK3
import Derived.Test.YtnhgflmmfppmnaaCI2
namespace Go.Proofs.Ytnhgflmmfppmnaa
open Go Go.RowKit Grp Rk
set_option linter.unusedSimpArgs false
set_option linter.unusedVariables false
set_option maxRecDepth 100000
theorem RdL.drop {α : Type} {P : Value → α → Prop} {w : World} {B b off n c : Nat} {xs : List α} (h : RdL P w B (some ⟨b, off, none⟩) n c xs) {d : Nat} (hd : d ≤ n) : RdL P w B (some ⟨b, off + d, none⟩) (n - d) (c - d) (xs.drop d) := by
  refine ⟨by simp [h.len], by have := h.cap; omega, fun hp => ?_, fun h => by cases h⟩
  obtain ⟨b', off', e, hb, hc⟩ := h.at_ (by omega)
  cases e
  refine ⟨b, off + d, rfl, hb, fun k x hx => ?_⟩
  rw [List.getElem?_drop] at hx
  obtain ⟨u, h1, h2⟩ := hc _ x hx
  exact ⟨u, by rw [show off + d + k = off + (d + k) by omega]; exact h1, h2⟩
theorem E2.own_form {w : World} {v : Value} {rows : List (List Int)} {fp : Nat → Prop} (h : E2 w v rows fp) (hp : 0 < rows.length) : ∃ g c, v = .slice (some ⟨g, 0, none⟩) rows.length c ∧ fp g ∧ g < w.heap.size ∧ ∀ k, w.frozen? ⟨g, k, none⟩ = false := by
  obtain ⟨us, F, hU⟩ := OwL.open_ h
  rcases hU.row.form with ⟨_, hz⟩ | ⟨g, c, hv, _, hg, _, _⟩
  · have := hU.len; rw [hz] at this; simp at this; omega
  · have hr := hU.row
    rw [hU.len] at hv
    subst hv
    refine ⟨g, c, rfl, hU.fp_ g rfl, hg, fun k => ?_⟩
    have h9 : w.ownsRow 0 24 1 (.slice (some ⟨g, 0, none⟩) rows.length c) us.length us := hr
    rw [← hU.len] at h9
    exact World.ownsRow.frozenAt h9 k
theorem E2.swap {w : World} {g n c : Nat} {rows : List (List Int)} {fp : Nat → Prop} (h : E2 w (.slice (some ⟨g, 0, none⟩) n c) rows fp) (hn : rows.length = n) {d e : Nat} (hd : d < n) (he : e < n) {ud ue : Value} (cd : w.cell? ⟨g, d, none⟩ = some ud) (ce : w.cell? ⟨g, e, none⟩ = some ue) :
    E2 ((w.setCell ⟨g, d, none⟩ ue).setCell ⟨g, e, none⟩ ud) (.slice (some ⟨g, 0, none⟩) n c) (swp rows d e) fp := by
  obtain ⟨us, F, hU⟩ := OwL.open_ h
  have hul : us.length = n := by rw [hU.len]; exact hn
  have hg0 : (Value.slice (some ⟨g, 0, none⟩) n c).ownBlock = some g := rfl
  have hrd : ∀ k u, us[k]? = some u → w.cell? ⟨g, k, none⟩ = some u := by
    rcases hU.row.form with ⟨e0, _⟩ | ⟨g', c', hv, _, _, _, hc⟩
    · cases e0
    · cases hv; exact hc
  have hud : us[d]? = some ud := by
    obtain ⟨u, hu⟩ := get_at (xs := us) (k := d) (by omega)
    rw [hu, ← cd, hrd d u hu]
  have hue : us[e]? = some ue := by
    obtain ⟨u, hu⟩ := get_at (xs := us) (k := e) (by omega)
    rw [hu, ← ce, hrd e u hu]
  have hrow : OwV ((w.setCell ⟨g, d, none⟩ ue).setCell ⟨g, e, none⟩ ud) 0 24 (.slice (some ⟨g, 0, none⟩) n c) ((us.set d ue).set e ud) := by
    have h0 : w.ownsRow 0 24 1 (.slice (some ⟨g, 0, none⟩) n c) n us := by have := hU.row; unfold OwV at this; rwa [hul] at this
    have h1 := (World.ownsRow.stored h0 d ue).1
    have h2 := (World.ownsRow.stored h1 e ud).1
    unfold OwV
    rw [List.length_set, List.length_set, hul]
    exact h2
  have hsw : ∀ b, b ≠ g → ((w.setCell ⟨g, d, none⟩ ue).setCell ⟨g, e, none⟩ ud).heap[b]? = w.heap[b]? := fun b hb => by
    rw [Below.heap_setCell _ ⟨g, e, none⟩ _ b hb, Below.heap_setCell _ ⟨g, d, none⟩ _ b hb]
  have hsz : ((w.setCell ⟨g, d, none⟩ ue).setCell ⟨g, e, none⟩ ud).heap.size = w.heap.size := by simp [World.setCell]
  have hne : ∀ k b, F k b → b ≠ g := fun k b hb e => (hU.sub k b hb).2 (by rw [hg0, e])
  refine OwU.close (us := (us.set d ue).set e ud) (F := fun k => F (if k = e then d else if k = d then e else k)) ⟨hrow, by rw [List.length_set, List.length_set, swp_len]; exact hU.len, fun k u x hu hx => ?_, fun j k b hj hk => ?_, fun k b hk => hU.sub _ b hk, hU.fp_, fun b hb => by rw [hsz]; exact hU.bd b hb⟩
  · have hkl : k < n := by have := (List.getElem?_eq_some_iff.1 hu).1; rw [List.length_set, List.length_set, hul] at this; exact this
    have hx' : (swp rows d e).getD k [] = x := getD_of hx
    rw [swp_get (by omega) (by omega)] at hx'
    have key : ∀ i, i < n → ∀ u, us[i]? = some u → E1 ((w.setCell ⟨g, d, none⟩ ue).setCell ⟨g, e, none⟩ ud) u (rows.getD i []) (F i) := fun i hi u hu => by
      obtain ⟨y, hy⟩ := get_at (xs := rows) (k := i) (by omega)
      rw [getD_of hy]
      exact kp1 _ _ _ _ _ (hU.each i u y hu hy) (fun b hb => hsw b (hne i b hb)) (by rw [hsz]; exact Nat.le_refl _)
    rw [List.getElem?_set] at hu
    by_cases h1 : e = k
    · subst h1
      rw [if_pos rfl, if_pos (by rw [List.length_set]; omega)] at hu
      injection hu with hu
      subst hu
      rw [if_pos rfl] at hx'
      simp only [if_true]
      rw [← hx']
      exact key d hd _ hud
    · rw [if_neg h1, List.getElem?_set] at hu
      rw [if_neg (fun h => h1 h.symm)] at hx'
      simp only [if_neg (fun h : k = e => h1 h.symm)]
      by_cases h2 : d = k
      · subst h2
        rw [if_pos rfl, if_pos (by omega)] at hu
        injection hu with hu
        subst hu
        rw [if_pos rfl] at hx'
        simp only [if_true]
        rw [← hx']
        exact key e he _ hue
      · rw [if_neg h2] at hu
        rw [if_neg (fun h => h2 h.symm)] at hx'
        simp only [if_neg (fun h : k = d => h2 h.symm)]
        rw [← hx']
        exact key k hkl _ hu
  · have h9 := hU.dis _ _ b hj hk
    (repeat' split at h9) <;> omega
theorem E2.cell2 {w : World} {g n c : Nat} {rows : List (List Int)} {fp : Nat → Prop} (h : E2 w (.slice (some ⟨g, 0, none⟩) n c) rows fp) (hn : rows.length = n) {d e : Nat} (he : e < n) (ue : Value) :
    (∃ u, (w.setCell ⟨g, d, none⟩ ue).cell? ⟨g, e, none⟩ = some u) ∧ (w.setCell ⟨g, d, none⟩ ue).frozen? ⟨g, e, none⟩ = false := by
  obtain ⟨us, F, hU⟩ := OwL.open_ h
  have hul : us.length = n := by rw [hU.len]; exact hn
  have h0 : w.ownsRow 0 24 1 (.slice (some ⟨g, 0, none⟩) n c) n us := by have := hU.row; unfold OwV at this; rwa [hul] at this
  have h1 := (World.ownsRow.stored h0 d ue).1
  refine ⟨?_, World.ownsRow.frozenAt h1 e⟩
  rw [World.ownsRow.cellAt h1 e (by omega)]
  obtain ⟨u, hu⟩ := get_at (xs := us.set d ue) (k := e) (by rw [List.length_set]; omega)
  exact ⟨u, hu⟩
/-- A store into number k of row i. -/
theorem E2.put {w : World} {v : Value} {rows : List (List Int)} {fp : Nat → Prop} (h : E2 w v rows fp) {i k : Nat} {r : List Int} (hr : rows[i]? = some r) (hk : k < r.length) (x : Int) (hx : i64ok x) :
    ∃ g g2 c c2, v = .slice (some ⟨g, 0, none⟩) rows.length c ∧ w.cell? ⟨g, i, none⟩ = some (.slice (some ⟨g2, 0, none⟩) r.length c2) ∧ (∃ u, w.cell? ⟨g2, k, none⟩ = some (.int .i64 u)) ∧ w.frozen? ⟨g2, k, none⟩ = false ∧ fp g2 ∧
      E2 (w.setCell ⟨g2, k, none⟩ (.int .i64 x)) v (rows.set i (r.set k x)) fp := by
  obtain ⟨A, c, e, hs⟩ := E2.sl2 h
  obtain ⟨u, fk, hu, he, hfk, hvk, hup⟩ := OwL.focus kp1 h hr
  obtain ⟨g, rfl, hc⟩ := hu A _ c e
  rcases he.own.form with ⟨_, h0⟩ | ⟨g2, cap, e2, _, hg2, _⟩
  · rw [h0] at hk; simp at hk
  · subst e2
    have o1 := he.own.cell rfl hk
    have o2 := he.own.frozen rfl k
    have o3 := he.own.store rfl k x
    refine ⟨g, g2, c, cap, e, hc, ⟨_, o1⟩, o2, hfk _ (he.fp_ g2 rfl), ?_⟩
    refine hup _ _ ⟨rfl, rfl, rfl, by simp [World.setCell], fun b _ hn => Below.heap_setCell _ _ _ _ (by simp; rintro rfl; exact hn (he.fp_ _ rfl))⟩ ⟨o3, ?_, he.fp_, fun b hb => by have := he.bd b hb; simpa [World.setCell] using this⟩
    intro y hy
    rcases List.mem_or_eq_of_mem_set hy with h | rfl
    · exact he.rng y h
    · exact hx
/-- Row i of owned rows: where it lies. -/
theorem E2.rowAt {w : World} {g n c : Nat} {rows : List (List Int)} {fp : Nat → Prop} (h : E2 w (.slice (some ⟨g, 0, none⟩) n c) rows fp) (hn : rows.length = n) {i m : Nat} (hi : i < n) (hm : (rows.getD i []).length = m) (hm0 : 0 < m) :
    ∃ g2 c2, w.cell? ⟨g, i, none⟩ = some (.slice (some ⟨g2, 0, none⟩) m c2) ∧ g < w.heap.size ∧ g2 < w.heap.size ∧ fp g2 ∧ g2 ≠ g ∧ (∀ j, j < m → w.cell? ⟨g2, j, none⟩ = some (.int .i64 (gi (rows.getD i []) j))) ∧
      ∀ j x, j < m → i64ok x → w.frozen? ⟨g2, j, none⟩ = false ∧ E2 (w.setCell ⟨g2, j, none⟩ (.int .i64 x)) (.slice (some ⟨g, 0, none⟩) n c) (rows.set i ((rows.getD i []).set j x)) fp := by
  obtain ⟨r, hr⟩ := get_at (xs := rows) (k := i) (by omega)
  rw [getD_of hr] at hm ⊢
  obtain ⟨u, fk, hu, he, hfk, hvk, hup⟩ := OwL.focus kp1 h hr
  obtain ⟨g', e', hc⟩ := hu _ _ _ rfl
  cases e'
  rcases he.own.form with ⟨_, h0⟩ | ⟨g2, cap, e2, _, hg2, _⟩
  · rw [h0] at hm; simp at hm; omega
  · subst e2
    refine ⟨g2, cap, by rw [← hm]; exact hc, World.block_lt_of_cell? _ _ hc, hg2, hfk _ (he.fp_ g2 rfl), fun e => hvk g rfl (by rw [← e]; exact he.fp_ g2 rfl), fun j hj => he.own.cell rfl (by omega), fun j x hj hx => ⟨he.own.frozen rfl j, ?_⟩⟩
    refine hup _ _ ⟨rfl, rfl, rfl, by simp [World.setCell], fun b _ hn => Below.heap_setCell _ _ _ _ (by simp; rintro rfl; exact hn (he.fp_ _ rfl))⟩ ⟨he.own.store rfl j x, ?_, he.fp_, fun b hb => by have := he.bd b hb; simpa [World.setCell] using this⟩
    intro y hy
    rcases List.mem_or_eq_of_mem_set hy with h | rfl
    · exact he.rng y h
    · exact hx
/-- A row made less up to place k. -/
def elimP (p : Int) (r q : List Int) (f : Int) (k : Nat) : List Int := (List.range r.length).map fun j => if j < k then (gi r j - f * gi q j) % p else gi r j
theorem elimP_len (p : Int) (r q : List Int) (f : Int) (k : Nat) : (elimP p r q f k).length = r.length := by simp [elimP]
theorem elimP_gi {p : Int} {r q : List Int} {f : Int} {k j : Nat} (hj : j < r.length) : gi (elimP p r q f k) j = if j < k then (gi r j - f * gi q j) % p else gi r j := by
  unfold elimP
  rw [show ∀ (xs : List Int), gi xs j = xs.getD j 0 from fun _ => rfl]
  simp [List.getD, List.getElem?_range hj]
theorem list_ext_gi {a b : List Int} (hl : a.length = b.length) (h : ∀ j, j < a.length → gi a j = gi b j) : a = b := by
  apply List.ext_getElem hl
  intro j h1 h2
  have := h j h1
  unfold gi at this
  rw [List.getD_eq_getElem?_getD, List.getD_eq_getElem?_getD, List.getElem?_eq_getElem h1, List.getElem?_eq_getElem h2] at this
  simpa using this
theorem elimP_start {p : Int} {r q : List Int} {f : Int} {c : Nat} (hr : ∀ j, j < c → gi r j = 0) (hq : ∀ j, j < c → gi q j = 0) : elimP p r q f c = r := by
  refine list_ext_gi (elimP_len _ _ _ _ _) fun j hj => ?_
  rw [elimP_len] at hj
  rw [elimP_gi hj]
  split
  · rename_i h
    rw [hr j h, hq j h]; simp
  · rfl
theorem elimP_end (p : Int) (r q : List Int) (f : Int) : elimP p r q f r.length = elim p r q f := by
  unfold elimP elim
  refine List.map_congr_left fun j hj => ?_
  rw [if_pos (List.mem_range.1 hj)]
theorem gi_set {xs : List Int} {k j : Nat} {x : Int} (hj : j < xs.length) : gi (xs.set k x) j = if j = k then x else gi xs j := by
  unfold gi
  rw [List.getD_eq_getElem?_getD, List.getD_eq_getElem?_getD, List.getElem?_set]
  by_cases h : k = j
  · subst h; simp [hj]
  · rw [if_neg h, if_neg (fun e => h e.symm)]
theorem elimP_step {p : Int} {r q : List Int} {f : Int} {k : Nat} (hk : k < r.length) : (elimP p r q f k).set k ((gi r k - f * gi q k) % p) = elimP p r q f (k + 1) := by
  refine list_ext_gi (by simp [elimP_len]) fun j hj => ?_
  rw [List.length_set, elimP_len] at hj
  rw [gi_set (by rw [elimP_len]; exact hj), elimP_gi hj, elimP_gi hj]
  by_cases h : j = k
  · subst h; simp
  · rw [if_neg h]
    by_cases h1 : j < k
    · rw [if_pos h1, if_pos (by omega)]
    · rw [if_neg h1, if_neg (by omega)]
theorem elim_zero {p : Int} {m : Nat} {r q : List Int} (h : In01 p m r) : elim p r q 0 = r := by
  refine list_ext_gi (by simp [elim]) fun j hj => ?_
  have hj' : j < r.length := by simpa [elim] using hj
  rw [elim_gi hj']
  have := h.2 j (by rw [← h.1]; exact hj')
  rw [Int.zero_mul, Int.sub_zero]
  exact Int.emod_eq_of_lt this.1 this.2
theorem elimP_zero {p : Int} {m k : Nat} {r q : List Int} (h : In01 p m r) : elimP p r q 0 k = r := by
  refine list_ext_gi (elimP_len _ _ _ _ _) fun j hj => ?_
  rw [elimP_len] at hj
  rw [elimP_gi hj]
  have := h.2 j (by rw [← h.1]; exact hj)
  split
  · rw [Int.zero_mul, Int.sub_zero]
    exact Int.emod_eq_of_lt this.1 this.2
  · rfl
theorem set_set_self {rows : List (List Int)} {i : Nat} {a b : List Int} : (rows.set i a).set i b = rows.set i b := by simp
theorem set_getD_self {rows : List (List Int)} {i : Nat} (hi : i < rows.length) : rows.set i (rows.getD i []) = rows := by
  rw [List.getD_eq_getElem?_getD, List.getElem?_eq_getElem hi]
  simp
theorem gd_set_self {rows : List (List Int)} {i : Nat} {a : List Int} (hi : i < rows.length) : (rows.set i a).getD i [] = a := by rw [List.getD_eq_getElem?_getD, List.getElem?_set_self hi]; rfl
theorem gd_set_ne {rows : List (List Int)} {i j : Nat} {a : List Int} (h : i ≠ j) : (rows.set i a).getD j [] = rows.getD j [] := by rw [List.getD_eq_getElem?_getD, List.getElem?_set_ne h, ← List.getD_eq_getElem?_getD]
theorem elim_arith {p r f q : Int} (hp : 2 ≤ p) (hp7 : p ≤ 7) (hr : 0 ≤ r ∧ r < p) (hf : 0 ≤ f ∧ f < p) (hq : 0 ≤ q ∧ q < p) :
    IntKind.i64.wrap (f * q) = f * q ∧ IntKind.i64.wrap (r - f * q) = r - f * q ∧ IntKind.i64.wrap ((r - f * q).tmod p + p) = (r - f * q).tmod p + p ∧ ((r - f * q).tmod p + p).tmod p = (r - f * q) % p ∧ 0 ≤ (r - f * q) % p ∧ (r - f * q) % p < p := by
  have h0 : 0 ≤ f * q := Int.mul_nonneg hf.1 hq.1
  have h1 : f * q ≤ 7 * 7 := Int.mul_le_mul (by omega) (by omega) hq.1 (by omega)
  have a := Int.lt_tmod_of_pos (r - f * q) (show 0 < p by omega)
  have b := Int.tmod_lt_of_pos (r - f * q) (show 0 < p by omega)
  exact ⟨wr64 _ ⟨by omega, by omega⟩, wr64 _ ⟨by omega, by omega⟩, wr64 _ ⟨by omega, by omega⟩, rest_eq' _ _ (by omega), Int.emod_nonneg _ (by omega), Int.emod_lt_of_pos _ (by omega)⟩
theorem rkF_any (w : World) (A : Option Addr) (n c : Nat) (r : List Int) (P cc : Nat) (h : Sl w w.heap.size A n c r) (hp : w.cell? ⟨P, 0, none⟩ = some (.int .i64 cc)) (hc : cc < n) :
    Calls Try.prog 31 #[.slice A n c, .pointer (some ⟨P, 0, none⟩)] w (Re w (.bool (gi r cc != 0))) := by
  obtain ⟨b, off, rfl, hb, hcl⟩ := h.at_ (by omega)
  have c1 := hcl cc hc
  obtain ⟨v, ev⟩ : ∃ v, gi r cc = v := ⟨_, rfl⟩
  rw [ev] at c1
  rw [ev]
  clear hcl ev h
  go_enter Try.func31, Try.ntmps31
  go_wp2_with fail
  go_ret
  exact ⟨rfl, Below.refl _ _⟩
theorem rkIx_any (W : World) (A : Option Addr) (n c : Nat) (xs : List (List Int)) (P cc m : Nat) (hx : Sl2 W W.heap.size A n c xs) (hn : n ≤ 1048576) (hm : ∀ x ∈ xs, x.length = m) (hc : cc < m) (hp : W.cell? ⟨P, 0, none⟩ = some (.int .i64 cc)) :
    Calls Try.prog 30 #[.slice A n c, .func (.func 31) #[] #[.pointer (some ⟨P, 0, none⟩)]] W (fun e w' => ((∃ r : Nat, e = .returned (.int .i64 r) ∧ r < n ∧ gi (xs.getD r []) cc ≠ 0) ∨ (e = .returned (.int .i64 (-1)) ∧ ∀ j, j < n → gi (xs.getD j []) cc = 0)) ∧ Below W.heap.size W w') := by
  obtain rfl := hx.len
  have hPl : P < W.heap.size := World.block_lt_of_cell? _ _ hp
  have HC := hide (fun (k : Nat) x A' n' c' (h : xs[k]? = some x) (hs : Sl W W.heap.size A' n' c' x) (wd : World) (hw : Below W.heap.size W wd) => rkF_any wd A' n' c' x P cc ((hs.below hw).more hw.size) ((hw.cell (p := ⟨P, 0, none⟩) hPl).trans hp) (by rw [← hs.len, hm x (get_mem h)]; exact hc))
  clear hp
  go_enter Try.func30, Try.ntmps30
  go_wp2_with fail
  go_loopw [8] (fun i wr => ∃ k : Nat, k ≤ xs.length ∧ i = .int .i64 k ∧ Hid (∀ j, j < k → gi (xs.getD j []) cc = 0) ∧ Below W.heap.size W wr) (fun i _ => xs.length - (intOf i).toNat)
  case atStart => exact ⟨0, by omega, rfl, hide fun j hj => absurd hj (by omega), Below.refl _ _⟩
  case round =>
    obtain ⟨k, hk, rfl, HP, hBe⟩ := hrel
    by_cases hlt : k < xs.length
    · obtain ⟨x, hxk⟩ := get_at hlt
      obtain ⟨b, off, rfl, hb⟩ := RdL.addr hx (by omega)
      obtain ⟨A', n', c', c0, hs⟩ := hx.row hxk
      have c1 := (hBe.cell (p := ⟨b, off + k, none⟩) hb).trans c0
      obtain rfl := hs.len
      have hcl := HC.out k x A' _ c' hxk hs
      have HX := hide (getD_of (d := []) hxk)
      clear hxk c0 hs
      by_cases hv : gi x cc = 0
      · rw [show (gi x cc != 0) = false by simp [hv]] at hcl
        have HL := hide hcl
        have HN := hide (show ∀ j, j < k + 1 → gi (xs.getD j []) cc = 0 from fun j hj => by
          rcases Nat.lt_succ_iff_lt_or_eq.1 hj with h | rfl
          · exact HP.out j h
          · rw [HX.out]; exact hv)
        clear hv hcl
        go_wp2_with fail
        clear c1
        refine (HL.out _ hBe).mono ?_
        rintro e w3 ⟨rfl, hb3⟩
        replace hBe := hBe.trans (hb3.mono hBe.size)
        clear hb3
        go_wp2_with fail
        go_roundw
        case rel => exact ⟨k + 1, by omega, by go_num, HN, hBe⟩
        case measure => simp [intOf] <;> omega
      · have hT := hide (show gi (xs.getD k []) cc ≠ 0 by rw [HX.out]; exact hv)
        rw [show (gi x cc != 0) = true by simp [hv]] at hcl
        have HL := hide hcl
        clear hv hcl
        go_wp2_with fail
        clear c1
        refine (HL.out _ hBe).mono ?_
        rintro e w3 ⟨rfl, hb3⟩
        replace hBe := hBe.trans (hb3.mono hBe.size)
        clear hb3
        go_wp2_with fail
        go_ret
        exact ⟨.inl ⟨k, rfl, hlt, hT.out⟩, hBe⟩
    · obtain rfl : k = xs.length := by omega
      go_wp2
      go_ret
      exact ⟨.inr ⟨rfl, HP.out⟩, hBe⟩
end Go.Proofs.Ytnhgflmmfppmnaa
