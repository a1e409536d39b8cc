
/- The walk of l17Rank of the reference. -/
import Derived.Test.YtnhgflmmfppmnaaCD1
import Derived.Test.YtnhgflmmfppmnaaNa
import Derived.Test.YtnhgflmmfppmnaaKD0
import Derived.Deep.DeepCutAuto
namespace Go.Proofs.Ytnhgflmmfppmnaa
open Go Go.RowKit Grp Rk
set_option linter.unusedSimpArgs false
set_option linter.unusedVariables false
set_option maxRecDepth 100000
theorem pint_info : (Try.prog.info? 3).map (fun i => (i.zero, i.size, i.bytes)) = some (some (.int .i64 0), 1, 8) := by kernel_rfl
/-- One element appended to an owned list of owned things, with what it touches. -/
theorem list_pushF {α : Type} {E : Own α} (hE : Kp E) {ops : Array Oper} {rest : List Oper} {o : Oper} {a : Act} {Q : Exit → Act → World → Prop} (st t : TypeId) (z : Value) (bytes : Nat) (hu : Try.prog.underlying st = some (.slice t)) (hinfo : (Try.prog.info? t).map (fun i => (i.zero, i.size, i.bytes)) = some (some z, 1, bytes)) (hby : bytes ≤ 24) (hzc : z.cells = #[z])
    (w : World) (hgd : o.guard = none) (s x : Operand) (ho : o.op = .call { callee := .builtin .append, args := #[s, x], argTypes := #[st, st] })
    (v : Value) (xs : List α) (fp : Nat → Prop) (hs : a.eval s = v) (hL : OwL E t w v xs fp) (u : Value) (e : α) (fu : Nat → Prop) (he : E w u e fu) (hfu : ∀ b, fu b → b < w.heap.size) (hd : ∀ b, fu b → ¬ fp b) (hu1 : u.oneCell' = true)
    (H T : Nat) (hx : a.eval x = .slice (some ⟨H, 0, none⟩) 1 1) (hb : Blk w H T #[u]) (hn : xs.length ≤ 1048576) (hH : w.heap.size = H + 1)
    (h : ∀ g cap w', OwL E t w' (.slice (some ⟨g, 0, none⟩) (xs.length + 1) cap) (xs ++ [e]) (fun b => fp b ∨ fu b ∨ b = g) → w.grownBy w' v.ownBlock → (v.ownBlock = some g ∨ g = H + 1) → g < w'.heap.size → wpList Try.prog ops Q rest (a.put o.dst (.slice (some ⟨g, 0, none⟩) (xs.length + 1) cap)) w') :
    wpList Try.prog ops Q (o :: rest) a w := by
  obtain ⟨us, F, h1⟩ := hL.open_
  have hl := h1.len
  refine list_pushV st t z bytes hu hinfo hby hzc w hgd s x ho 0 v us hs h1.row u hu1 H T hx hb (by omega) (Nat.zero_le _) hH ?_
  intro g cap w' hP
  have h4 := OwU.push hE h1 he hd hfu hH hP
  rw [hl]
  obtain ⟨p1, p2, p3, p4⟩ := hP
  exact h g cap w' h4 p2 p3 p4
def pcell (piv : List Nat) : List Value := piv.map fun (n : Nat) => .int .i64 n
/-- Rows and their leading places, under construction. -/
structure Tw (w : World) (vR vP : Value) (rows : List (List Int)) (piv : List Nat) (fR : Nat → Prop) (wr : World) : Prop where
  rws : E2 wr vR rows fR
  pvs : OwV wr w.heap.size 3 vP (pcell piv)
  lo : ∀ b, fR b → w.heap.size ≤ b ∧ vP.ownBlock ≠ some b
  below : Below w.heap.size w wr
section
variable {w wr wa w' : World} {vR vP : Value} {rows : List (List Int)} {piv : List Nat} {fR fu : Nat → Prop}
theorem Tw.bel (h : Tw w vR vP rows piv fR wr) (hb : Below wr.heap.size wr w') : Tw w vR vP rows piv fR w' :=
  ⟨E2.below h.rws hb, h.pvs.bel hb, h.lo, h.below.trans (hb.mono h.below.size)⟩
theorem Tw.pushR (h : Tw w vR vP rows piv fR wr) (hb : Below wr.heap.size wr wa) {N : List Int} {H g cap : Nat} (hfu : ∀ b, fu b → wr.heap.size ≤ b) (hH : wa.heap.size = H + 1) (hHw : wr.heap.size ≤ H)
    (hL : E2 w' (.slice (some ⟨g, 0, none⟩) (rows.length + 1) cap) (rows ++ [N]) (fun b => fR b ∨ fu b ∨ b = g)) (hg : wa.grownBy w' vR.ownBlock) (h3 : vR.ownBlock = some g ∨ g = H + 1) :
    Tw w (.slice (some ⟨g, 0, none⟩) (rows.length + 1) cap) vP (rows ++ [N]) piv (fun b => fR b ∨ fu b ∨ b = g) w' := by
  have h4 := h.bel hb
  have hsz := h4.below.size
  have hs0 := h.below.size
  have hne : ∀ b, vP.ownBlock = some b → vR.ownBlock ≠ some b := fun b hv hR => (h.lo b (OwL.fp_ h.rws b hR)).2 hv
  have hlt : ∀ b, vP.ownBlock = some b → b < wr.heap.size := fun b hv => (OwV.lt h.pvs b hv).2
  refine ⟨hL, h4.pvs.keep fun b hv => hg.block b (OwV.lt h4.pvs b hv).2 (fun e => hne b hv e.symm), fun b hbb => ?_, ?_⟩
  · rcases hbb with hbb | hbb | rfl
    · exact h.lo b hbb
    · have := hfu b hbb
      exact ⟨by omega, fun hv => by have := hlt b hv; omega⟩
    · rcases h3 with h3 | h3
      · exact h.lo _ (OwL.fp_ h.rws _ h3)
      · exact ⟨by omega, fun hv => by have := hlt _ hv; omega⟩
  · exact h4.below.trans ((Below.refl w.heap.size wa).grown hg hsz (fun k hk => (h.lo k (OwL.fp_ h.rws k hk)).1))
theorem Tw.pushP (h : Tw w vR vP rows piv fR wr) (hb : Below wr.heap.size wr wa) {n H g cap : Nat} (hH : wa.heap.size = H + 1) (hHw : wr.heap.size ≤ H)
    (hP : PushV 3 wa w.heap.size vP (pcell piv) (.int .i64 n) H g cap w') :
    Tw w vR (.slice (some ⟨g, 0, none⟩) (piv.length + 1) cap) rows (piv ++ [n]) fR w' := by
  have h4 := h.bel hb
  have hs0 := h.below.size
  obtain ⟨p1, p2, p3, p4⟩ := hP
  have hne : ∀ b, fR b → vP.ownBlock ≠ some b := fun b hf => (h.lo b hf).2
  have hlt : ∀ b, fR b → b < wr.heap.size := fun b hf => OwL.bd h.rws b hf
  have hltv : ∀ b, vP.ownBlock = some b → b < wr.heap.size := fun b hv => (OwV.lt h.pvs b hv).2
  refine ⟨kp2 _ _ _ _ _ h4.rws (fun b hf => p2.block b (OwL.bd h4.rws b hf) (fun e => hne b hf e.symm)) p2.size, ?_, fun b hf => ⟨(h.lo b hf).1, ?_⟩, h4.below.trans ((Below.refl w.heap.size wa).grown p2 h4.below.size (fun k hk => (OwV.lt h.pvs k hk).1))⟩
  · have e : pcell (piv ++ [n]) = pcell piv ++ [.int .i64 n] := by simp [pcell]
    rw [e]
    have hl : (pcell piv).length = piv.length := by simp [pcell]
    rw [hl] at p1
    exact p1
  · simp only [Value.ownBlock, ne_eq, Option.some.injEq]
    rintro rfl
    rcases p3 with p3 | p3
    · exact hne _ hf p3
    · have := hlt _ hf; omega
end
theorem list_pushP {ops : Array Oper} {rest : List Oper} {o : Oper} {a : Act} {Q : Exit → Act → World → Prop} (w : World) (hgd : o.guard = none) (s x : Operand) (ho : o.op = .call { callee := .builtin .append, args := #[s, x], argTypes := #[55, 55] })
    (B : Nat) (v : Value) (piv : List Nat) (hs : a.eval s = v) (hown : OwV w B 3 v (pcell piv)) (n : Nat) (H T : Nat) (hx : a.eval x = .slice (some ⟨H, 0, none⟩) 1 1) (hb : Blk w H T #[.int .i64 n]) (hn : piv.length ≤ 1048576) (hB : B ≤ w.heap.size) (hH : w.heap.size = H + 1)
    (h : ∀ g cap w', PushV 3 w B v (pcell piv) (.int .i64 n) H g cap w' → wpList Try.prog ops Q rest (a.put o.dst (.slice (some ⟨g, 0, none⟩) (piv.length + 1) cap)) w') :
    wpList Try.prog ops Q (o :: rest) a w := by
  have hl : (pcell piv).length = piv.length := by simp [pcell]
  refine list_pushV 55 3 _ 8 Try.underlying55 pint_info (by omega) rfl w hgd s x ho B v (pcell piv) hs hown _ rfl H T hx hb (by omega) hB hH ?_
  intro g cap w' hP
  rw [hl]
  exact h g cap w' hP
theorem GenL_zero (xs : List (List Int)) : GenL xs 0 = fun _ => False := by
  funext v
  simp [GenL]
theorem GenL_succ {xs : List (List Int)} {n : Nat} {x : List Int} (h : xs[n]? = some x) : (fun v => GenL xs n v ∨ v = vec x) = GenL xs (n + 1) := by
  funext v
  apply propext
  constructor
  · rintro (⟨i, y, h1, h2, h3⟩ | h1)
    · exact ⟨i, y, by omega, h2, h3⟩
    · exact ⟨n, x, by omega, h, h1⟩
  · rintro ⟨i, y, h1, h2, h3⟩
    by_cases e : i = n
    · subst e
      rw [h] at h2
      injection h2 with h2
      subst h2
      exact .inr h3
    · exact .inl ⟨i, y, by omega, h2, h3⟩
theorem getD_nat {xs : List Nat} {k : Nat} (h : k < xs.length) : (pcell xs)[k]? = some (.int .i64 ((xs.getD k 0 : Nat) : Int)) := by
  unfold pcell
  rw [List.getElem?_map, List.getElem?_eq_getElem h, List.getD_eq_getElem?_getD, List.getElem?_eq_getElem h]
  rfl
theorem Tw.at_ {w wr : World} {vP : Value} {rows : List (List Int)} {piv : List Nat} {fR : Nat → Prop} {AR : Option Addr} {N cR : Nat} (h : Tw w (.slice AR N cR) vP rows piv fR wr) (hN : rows.length = N) (hp : piv.length = N) {q : Nat} (hq : q < N) :
    ∃ b off A' n' c' gp cap, AR = some ⟨b, off, none⟩ ∧ b < wr.heap.size ∧ wr.cell? ⟨b, off + q, none⟩ = some (.slice A' n' c') ∧ Sl wr wr.heap.size A' n' c' (rows.getD q []) ∧ vP = .slice (some ⟨gp, 0, none⟩) N cap ∧ gp < wr.heap.size ∧ wr.cell? ⟨gp, q, none⟩ = some (.int .i64 ((piv.getD q 0 : Nat) : Int)) := by
  obtain ⟨A, c, e, hs⟩ := E2.sl2 h.rws
  rw [hN] at e hs
  injection e with e1 _ e2
  subst e1
  obtain ⟨b, off, rfl, hb⟩ := RdL.addr hs (by omega)
  obtain ⟨r, hr⟩ := get_at (xs := rows) (k := q) (by omega)
  obtain ⟨A', n', c', h1, h2⟩ := hs.row hr
  rcases h.pvs.form with ⟨_, hz⟩ | ⟨gp, cap, hv, _, hg, _, hc⟩
  · have := congrArg List.length hz
    simp [pcell] at this
    rw [this] at hp
    simp at hp; omega
  · have hl : (pcell piv).length = N := by simp [pcell, hp]
    rw [hl] at hv
    exact ⟨b, off, A', n', c', gp, cap, rfl, hb, h1, by rw [getD_of hr]; exact h2, hv, hg, hc q _ (getD_nat (by omega))⟩
theorem lessL_zero {p : Int} {m : Nat} {L : List Int} {q : Int} (h : L.length = m) : ∀ j, j < m → gi (lessL p (List.replicate m 0) L (p - q)) j = q * gi L j % p := fun j hj => by
  rw [lessL_gi (by simp; omega)]
  have : gi (List.replicate m 0) j = 0 := by unfold gi; simp [List.getD, List.getElem?_replicate, hj]
  rw [this]
  congr 1
  rw [show p - (p - q) = q by omega]
  omega
theorem rep_in {p : Int} {m : Nat} (hp : 2 ≤ p) : In01 p m (List.replicate m 0) := by
  refine ⟨by simp, fun j hj => ?_⟩
  have : gi (List.replicate m 0) j = 0 := by unfold gi; simp [List.getD, List.getElem?_replicate, hj]
  rw [this]; omega
set_option maxHeartbeats 8000000 in
theorem l17Rank_any (w : World) (p : Int) (A : Option Addr) (k c : Nat) (xs : List (List Int)) (m : Nat) (h : Sl2 w w.heap.size A k c xs) (hk : k ≤ 1000000) (hm : m ≤ 1000) (hp : Pr4 p) (hx : ∀ x ∈ xs, In01 p m x) :
    Calls Try.prog 23 #[.int .i64 p, .slice A k c] w (fun e w' => ∃ r : Nat, e = .returned (.int .i64 r) ∧ HasRk p m (GenL xs xs.length) r ∧ Below w.heap.size w w') := by
  have hpr := hp.rng
  have hlen := hide h.len
  go_enter Try.func23, Try.ntmps23
  go_wp2_with fail
  obtain ⟨W, hW⟩ : ∃ W, (w.alloc (.cells #[] 24)).alloc (.cells #[] 3) = W := ⟨_, rfl⟩
  have hT0 : Tw w (.slice (some ⟨w.heap.size, 0, none⟩) 0 0) (.slice (some ⟨w.heap.size + 1, 0, none⟩) 0 0) [] [] (fun b => b = w.heap.size) W := by
    rw [← hW]
    have hg : Grow E1 24 w.heap.size (w.alloc (.cells #[] 24)) (.slice (some ⟨w.heap.size, 0, none⟩) 0 0) ([] : List (List Int)) := Grow.start rfl (Nat.le_refl _)
    have hL : E2 (w.alloc (.cells #[] 24)) (.slice (some ⟨w.heap.size, 0, none⟩) 0 0) [] (fun b => b = w.heap.size) := OwL.mono hg.toL (fun b hb => by have := hb.1; have := hb.2; simp at this; omega) (fun b hb => by rw [hb]; simp)
    exact ⟨E2.below hL ((Below.refl _ _).alloc (Nat.le_refl _) _), OwV.made _ _ _ (by simp) (by omega), fun b hb => ⟨by omega, by rw [hb]; simp [Value.ownBlock]⟩, (by repeat (first | assumption | exact Below.refl _ _ | apply below_drewN | apply Below.drew | apply Below.alloc | apply Below.setCell | omega | (focus (simp; done)) | (focus (simp; omega))))⟩
  rw [hW]
  clear hW
  have hSt0 := hide (show St p m (GenL xs 0) [] [] by rw [GenL_zero]; exact St.start)
  go_loopw [5, 6, 7] (fun r q i wr => ∃ (n : Nat) (vR vP : Value) (rows : List (List Int)) (piv : List Nat) (fR : Nat → Prop), n ≤ k ∧ vR = r ∧ vP = q ∧ i = .int .i64 n ∧ Tw w vR vP rows piv fR wr ∧ Hid (St p m (GenL xs n) rows piv) ∧ Hid (rows.length ≤ n)) (fun _ _ i _ => k - (intOf i).toNat)
  case atStart => exact ⟨0, _, _, [], [], _, by omega, rfl, rfl, rfl, hT0, hSt0, hide (Nat.le_refl _)⟩
  case round =>
    clear hT0 hSt0
    obtain ⟨n, vR, vP, rows, piv, fR, hn, rfl, rfl, rfl, hT, HS, HL⟩ := hrel
    have hrl : rows.length ≤ k := Nat.le_trans HL.out hn
    have hpl : piv.length = rows.length := HS.out.len.symm
    obtain ⟨N, hN⟩ : ∃ N, rows.length = N := ⟨_, rfl⟩
    have HN := hide hN
    obtain ⟨AR, cR, eR, sR⟩ := E2.sl2 hT.rws
    rw [hN] at hpl hrl eR sR
    have HPL := hide hpl
    subst eR
    clear hN hpl
    by_cases hlt : n < k
    · obtain ⟨x, hxx⟩ := get_at (xs := xs) (k := n) (by rw [hlen.out]; exact hlt)
      have hT9 := h.below hT.below
      obtain ⟨b0, off0, rfl, hb0⟩ := RdL.addr h (by omega)
      obtain ⟨A1, n1, c1, e1, s1⟩ := hT9.row hxx
      have hin := hx x (get_mem hxx)
      have hnm : m = n1 := by rw [← s1.len]; exact hin.1.symm
      subst hnm
      have HX := hide hxx
      have HIN := hide hin
      have hszw := hT.below.size
      clear hxx hin hT9
      go_wp2_with fail
      refine (l01Own_any wr w.heap.size A1 m c1 x s1 hszw (by omega)).mono ?_
      rintro e w1 ⟨vL, rfl, hO, hb1⟩
      obtain ⟨AL, cL, rfl, sL⟩ := hO.sl (HIN.out.ok (by omega))
      rw [show x.length = m from HIN.out.1] at sL ⊢
      have hT1 := hT.bel hb1
      have hR0 := hide (Red.start (rows := rows) (piv := piv) HIN.out)
      clear hO s1 e1 hb1 hT sR
      go_wp2_with fail
      go_loopw [8, 9] (fun l i wx => ∃ (q : Nat) (AL : Option Addr) (cL : Nat) (L : List Int), q ≤ N ∧ (Value.slice AL m cL) = l ∧ i = .int .i64 q ∧ Sl wx wx.heap.size AL m cL L ∧ Tw w (.slice AR N cR) vP rows piv fR wx ∧ Hid (Red p m rows piv x q L)) (fun _ i _ => N - (intOf i).toNat)
      case atStart => exact ⟨0, AL, cL, x, by omega, rfl, rfl, sL, hT1, hR0⟩
      case round =>
        clear sL hT1 hR0
        obtain ⟨q, AL, cL, L, hq, rfl, rfl, sL, hT, HR⟩ := hrel
        by_cases hlq : q < N
        · obtain ⟨b2, off2, A2, n2, c2, gp, cap, rfl, hb2, e2, s2, rfl, hgp, e3⟩ := hT.at_ HN.out HPL.out hlq
          have hn2 : m = n2 := by rw [← s2.len]; exact (HS.out.in01 q (by rw [HN.out]; exact hlq)).1.symm
          subst hn2
          have hpm := HS.out.lt q (by rw [HN.out]; exact hlq)
          have hr2 := HS.out.in01 q (by rw [HN.out]; exact hlq)
          have HSK := hide (fun hz => HR.out.skip (k := q) hz)
          have HST := hide (HR.out.step hpr.1 HS.out (by rw [HN.out]; exact hlq))
          obtain ⟨pk, hpk⟩ : ∃ pk, piv.getD q 0 = pk := ⟨_, rfl⟩
          obtain ⟨row, hrow⟩ : ∃ row, rows.getD q [] = row := ⟨_, rfl⟩
          rw [hpk] at e3 hpm HSK HST
          rw [hrow] at s2 hr2 HST
          obtain ⟨bl, ol, rfl, hbl, hcl⟩ := sL.at_ (by omega)
          have hcl1 := hcl pk hpm
          have hv := HR.out.in01.2 pk hpm
          obtain ⟨v, ev⟩ : ∃ v, gi L pk = v := ⟨_, rfl⟩
          rw [ev] at hcl1 hv HSK HST
          clear hcl hpk hrow ev
          by_cases hv0 : v = 0
          · have t1 : (v != 0) = false := by simp [hv0]
            have HRN := hide (HSK.out hv0)
            clear hv0 HSK HST
            go_wp2_with fail
            go_roundw
            case rel => exact ⟨q + 1, _, _, L, by omega, rfl, by go_num, sL, hT, HRN⟩
            case measure => simp [intOf] <;> omega
          · have t1 : (v != 0) = true := by simp [hv0]
            have HC := hide (fun W' (hW : Below wr.heap.size wr W') => l17Less_any W' p (some ⟨bl, ol, none⟩) cL L A2 c2 row v m ((sL.below hW).more hW.size) ((s2.below hW).more hW.size) hm hp ⟨hv.1, by omega⟩ HR.out.in01 hr2)
            have E2' := hide e2
            have E3' := hide e3
            have CL := hide hcl1
            have HT := hide hT
            clear hv0 HSK s2 hr2 sL hT
            go_wp2_with fail
            clear hcl1 e2 e3
            refine wp_region_be [0, 1, 2, 3, 4, 5, 6, 7, 8, 9, 10, 11, 12, 13, 14] 14 wr.heap.size wr (by kernel_rfl) (by kernel_rfl) (by kernel_rfl) (fun _ _ _ _ _ h => h) (Below.refl _ _) (fun wd hBe => ?_)
            repeat (first | (apply ord_tk rfl (by rfl) (by rfl) (by rfl); (focus (intro wx hSw; have r1 := (hSw.cell (p := ⟨b2, off2 + q, none⟩) hb2).trans E2'.out; have r2 := (hSw.cell (p := ⟨gp, q, none⟩) hgp).trans E3'.out; have r3 := (hSw.cell (p := ⟨bl, ol + pk, none⟩) hbl).trans CL.out; go_simp; (try with_reducible rfl))); (try simp only [Act.put, List.setIfInBounds_toArray, List.set_cons_zero, List.set_cons_succ])) | (apply ord_skip rfl (by rfl) (by rfl) (fun _ => hBe); (try simp only [Act.put, List.setIfInBounds_toArray, List.set_cons_zero, List.set_cons_succ])))
            refine ord_do rfl (by rfl) (by rfl) (fun K hK => ?_)
            go_simp
            refine (HC.out _ hBe).mono ?_
            rintro e wd' ⟨v2, rfl, hO2, hb2'⟩
            have hLin := lessL_in (b := row) (k := v) hpr.1 HR.out.in01.1
            obtain ⟨AL2, cL2, rfl, sL2⟩ := hO2.sl (hLin.ok (by omega))
            rw [hLin.1] at sL2 ⊢
            replace hBe := hBe.trans (hb2'.mono hBe.size)
            refine hK.out _ _ (fun _ => hBe) ?_
            (try simp only [Act.put, List.setIfInBounds_toArray, List.set_cons_zero, List.set_cons_succ])
            clear hK K
            refine ord_do rfl (by rfl) (by rfl) (fun K hK => ?_)
            go_simp
            refine hK.out _ _ (fun h => absurd h (by omega)) ?_
            (try simp only [Act.put, List.setIfInBounds_toArray, List.set_cons_zero, List.set_cons_succ])
            clear hK K
            refine ord_nil ?_
            have hT2 := hide (HT.out.bel hBe)
            have SL2 := hide sL2
            clear hO2 hb2' hBe hLin sL2
            go_wp2_with fail
            go_roundw
            case rel => exact ⟨q + 1, _, _, _, by omega, rfl, by go_num, SL2.out, hT2.out, HST⟩
            case measure => simp [intOf] <;> omega
        · obtain rfl : N = q := by omega
          have HRR := hide (show Red p m rows piv x rows.length L by rw [HN.out]; exact HR.out)
          go_wp2_with fail
          obtain ⟨w3, hw3⟩ : ∃ w3, w3 = wr := ⟨_, rfl⟩
          subst hw3
          go_loopw [10] (fun i wx => ∃ t : Nat, t ≤ m ∧ i = .int .i64 t ∧ Hid (∀ j, j < t → gi L j = 0) ∧ w3 = wx) (fun i _ => m - (intOf i).toNat)
          case atStart => exact ⟨0, by omega, rfl, hide fun j hj => absurd hj (by omega), rfl⟩
          case round =>
            obtain ⟨t, ht, rfl, HZ, rfl⟩ := hrel
            by_cases hlt2 : t < m
            · obtain ⟨bl, ol, rfl, hbl, hcl⟩ := sL.at_ (by omega)
              have hcl1 := hcl t hlt2
              have hv := HRR.out.in01.2 t hlt2
              obtain ⟨v, ev⟩ : ∃ v, gi L t = v := ⟨_, rfl⟩
              rw [ev] at hcl1 hv
              have EV := hide ev
              clear hcl ev
              by_cases hv0 : v = 0
              · have t1 : (v == 0) = true := by simp [hv0]
                have HZN := hide (show ∀ j, j < t + 1 → gi L j = 0 from fun j hj => by
                  rcases Nat.lt_succ_iff_lt_or_eq.1 hj with h | rfl
                  · exact HZ.out j h
                  · exact EV.out.trans hv0)
                clear hv0
                go_wp2_with fail
                go_roundw
                case rel => exact ⟨t + 1, by omega, by go_num, HZN, trivial⟩
                case measure => simp [intOf] <;> omega
              · have t1 : (v == 0) = false := by simp [hv0]
                obtain ⟨r, r1, r2, r3, r4⟩ := inv_least hp (show 0 < v by omega) hv.2
                have R3 := hide r3
                have R4 := hide r4
                clear hv0 r3 r4
                go_wp2_with fail
                go_loopw [11] (fun i wx => ∃ j : Nat, 1 ≤ j ∧ j ≤ r ∧ i = .int .i64 j ∧ w3 = wx) (fun i _ => r - (intOf i).toNat)
                case atStart => exact ⟨1, by omega, by omega, rfl, rfl⟩
                case round =>
                  obtain ⟨j, hj1, hjr, rfl, rfl⟩ := hrel
                  have m0 : 0 ≤ (j : Int) * v := Int.mul_nonneg (by omega) hv.1
                  have m1 : (j : Int) * v ≤ 7 * 7 := Int.mul_le_mul (by omega) (by omega) hv.1 (by omega)
                  have q1 : IntKind.i64.wrap ((j : Int) * v) = (j : Int) * v := wr64 _ ⟨by omega, by omega⟩
                  have q4 : ¬ p = 0 := by omega
                  by_cases hlj : j < r
                  · obtain ⟨y, hy⟩ : ∃ y, (j : Int) * v % p = y := ⟨_, rfl⟩
                    have hy1 := R4.out j hj1 hlj
                    have q2 : ((j : Int) * v).tmod p = y := by rw [Int.tmod_eq_emod_of_nonneg m0]; exact hy
                    rw [hy] at hy1
                    have q3 : (y != 1) = true := by simp [hy1]
                    clear hy hy1
                    go_wp2_with fail
                    go_roundw
                    case rel => exact ⟨j + 1, by omega, by omega, by go_num, trivial⟩
                    case measure => simp [intOf] <;> omega
                  · obtain rfl : r = j := by omega
                    have q2 : ((r : Int) * v).tmod p = 1 := by rw [Int.tmod_eq_emod_of_nonneg m0]; exact R3.out
                    have hmk := fun W => run_make (P := Try.prog) (w := W) 24 2 (info_parts int_info).choose (.int .i64 0) Try.underlying24 (info_parts int_info).choose_spec.1 (info_parts int_info).choose_spec.2.1 .i64 .i64 m m (by omega) (by omega) (by rw [(info_parts int_info).choose_spec.2.2.2]; omega) (by omega)
                    simp only [(info_parts int_info).choose_spec.2.2.1, Int.toNat_natCast, Nat.mul_one] at hmk
                    have q5 : IntKind.i64.wrap (p - (r : Int)) = p - r := wr64 _ ⟨by omega, by omega⟩
                    go_wp2_with fail
                    clear hmk
                    obtain ⟨AZ, cZ, eZ, sZ⟩ := (E1.zeros w3 m w3.heap.size rfl (by unfold maxLen; omega)).sl
                    rw [List.length_replicate] at eZ sZ
                    injection eZ with eZ1 _ eZ2
                    subst eZ1
                    subst eZ2
                    have hbz : Below w3.heap.size w3 (w3.alloc (.cells (madeCells #[.int .i64 0] m) 2)) := (Below.refl _ _).alloc (Nat.le_refl _) _
                    obtain ⟨w4, hw4⟩ : ∃ w4, w3.alloc (.cells (madeCells #[.int .i64 0] m) 2) = w4 := ⟨_, rfl⟩
                    have hs4 : w4.heap.size = w3.heap.size + 1 := by rw [← hw4]; simp
                    rw [hw4] at sZ hbz ⊢
                    clear hw4
                    refine (l17Less_any w4 p (some ⟨w3.heap.size, 0, none⟩) m (List.replicate m 0) (some ⟨bl, ol, none⟩) cL L (p - r) m sZ ((sL.below hbz).more hbz.size) hm hp ⟨by omega, by omega⟩ (rep_in hpr.1) HRR.out.in01).mono ?_
                    rintro e w5 ⟨v5, rfl, hO5, hb5⟩
                    have hin5 := lessL_in (p := p) (a := List.replicate m 0) (b := L) (k := p - r) hpr.1 (show (List.replicate m (0 : Int)).length = m by simp)
                    have hgi5 := lessL_zero (p := p) (q := r) HRR.out.in01.1
                    obtain ⟨N5, hN5⟩ : ∃ N5, lessL p (List.replicate m 0) L (p - r) = N5 := ⟨_, rfl⟩
                    rw [hN5] at hO5 hin5 hgi5
                    have hSM := hide (show St p m (GenL xs (n + 1)) (rows ++ [N5]) (piv ++ [t]) by
                      rw [← GenL_succ HX.out]
                      exact HS.out.more hpr.1 HRR.out hlt2 HZ.out (by rw [EV.out]; exact R3.out) hin5 hgi5)
                    have hE5 := E1.of_ow hO5 (hin5.ok (by omega))
                    obtain ⟨A5, c5, rfl, _⟩ := hO5.sl (hin5.ok (by omega))
                    rw [hin5.1] at hE5 ⊢
                    have hb35 := hbz.trans (hb5.mono hbz.size)
                    have hs5 := hb5.size
                    have hT5 := hT.bel hb35
                    have hba : Below w5.heap.size w5 (w5.alloc (.cells #[.slice A5 m c5] 24)) := (Below.refl _ _).alloc (Nat.le_refl _) _
                    have hE6 := E1.below hE5 hba
                    have hT6 := (hT5.bel hba).rws
                    have hrn := HN.out
                    have hpn := HPL.out
                    clear hO5 hgi5 hN5 hbz hb5 sZ
                    have HIN5 := hide hin5
                    clear hin5
                    have HRN := hide hrn
                    have HPN := hide hpn
                    clear hrn hpn
                    go_upto_region 19 with (at_builtin; refine list_pushF kp1 39 24 _ 24 Try.underlying39 rows_info (by omega) rfl _ rfl _ _ rfl (.slice AR N cR) rows fR rfl hT6 (.slice A5 m c5) N5 _ hE6 (fun b hb => by have := hb.2; simp; omega) (fun b hb hf => by have := hb.1; have := OwL.bd hT.rws b hf; omega) rfl w5.heap.size _ rfl (Blk.new _ _ _) (by rw [HRN.out]; omega) (by simp) ?_; intro g6 cap6 w6 hL6 hg6 h36 hl6)
                    have hT7 := hT.pushR (hb35.trans (hba.mono hb35.size)) (fun b hb => by have := hb.1; omega) (by simp) hb35.size hL6 hg6 h36
                    have hs6 := hT7.below.size
                    clear hL6 hg6 h36 hT6 hE6 hE5 hT5
                    go_wp2_with (at_builtin; refine list_pushP _ rfl _ _ rfl w.heap.size vP piv rfl (hT7.pvs.alloc _) t w6.heap.size _ rfl (Blk.new _ _ _) (by rw [HPN.out]; omega) (by simp; omega) (by simp) ?_; intro g7 cap7 w7 hP7)
                    have hT8 := hT7.pushP ((Below.refl _ _).alloc (Nat.le_refl _) _) (by simp) (Nat.le_refl _) hP7
                    clear hP7 hT7
                    go_roundw
                    case rel => exact ⟨n + 1, _, _, rows ++ [N5], piv ++ [t], _, by omega, rfl, rfl, by go_num, hT8, hSM, hide (by have := HL.out; simp; omega)⟩
                    case measure => simp [intOf] <;> omega
            · obtain rfl : m = t := by omega
              have HST := hide (show St p m (GenL xs (n + 1)) rows piv by rw [← GenL_succ HX.out]; exact HS.out.zero HRR.out HZ.out)
              go_wp2_with fail
              go_roundw
              case rel => exact ⟨n + 1, _, _, rows, piv, fR, by omega, rfl, rfl, by go_num, hT, HST, hide (by have := HL.out; omega)⟩
              case measure => simp [intOf] <;> omega
    · obtain rfl : k = n := by omega
      have HE := hide (HS.out.rk hpr.1)
      go_wp2_with fail
      go_ret
      rw [← hlen.out]
      exact ⟨rows.length, by rw [HN.out]; rfl, by rw [hlen.out]; exact HE.out, hT.below⟩
end Go.Proofs.Ytnhgflmmfppmnaa
