
/- The walks of CountMetrics of both sides. -/
import Derived.Test.YtnoemhmmaicakaaX1
import Derived.Test.YtnoemhmmaicakaaI5
import Derived.Test.YtnoemhmmaicakaaS6a
import Derived.Test.YtnoemhmmaicakaaEa
import Derived.WalkLawsBesides
namespace Go.Proofs.Ytnoemhmmaicakaa
open Go Go.RowKit Grp
set_option linter.unusedSimpArgs false
set_option linter.unusedVariables false
set_option maxRecDepth 100000
/-- A square a that fits an order n. -/
def kmB (D n a : Nat) : Bool := (2 * a * n) % D == 0 && (a * n * n) % D == 0
/-- How many of the first k squares fit. -/
def kmN (D n : Nat) : Nat → Nat
  | 0 => 0
  | k + 1 => if kmB D n k = true then kmN D n k + 1 else kmN D n k
theorem kmN_le (D n : Nat) : ∀ k, kmN D n k ≤ k
  | 0 => Nat.le_refl _
  | k + 1 => by have := kmN_le D n k; unfold kmN; split <;> omega
def kmG (D n : Nat) (o : Int) : List Int → Int
  | [] => o
  | k :: ks => kmG D n (IntKind.i64.wrap (o * ((Nat.gcd (Nat.gcd n k.toNat) D : Nat) : Int))) ks
def kmR (D : Nat) : List Int → Int → Int
  | [], o => o
  | n :: r, o => kmR D r (kmG D n.toNat (IntKind.i64.wrap (o * ((kmN D n.toNat D : Nat) : Int))) r)
def kmV (os : List Int) (D : Int) : Int := if (okG os && ordB D) = true then kmR D.toNat os 1 else 0
def kmC (os : List Int) (D : Int) : Int := if (okG os && ordB D) = true then 0 else 2
theorem kmT_eqs {D n a : Nat} (hD : 1 ≤ D) (hn : n ≤ 16) (ha : a < D) (hD2 : D ≤ 55440) :
    IntKind.i64.wrap (2 * (a : Int)) = 2 * (a : Int) ∧ IntKind.i64.wrap (2 * (a : Int) * n) = 2 * (a : Int) * n ∧ (2 * (a : Int) * n).tmod D = ((2 * a * n % D : Nat) : Int) ∧ IntKind.i64.wrap ((a : Int) * n) = (a : Int) * n ∧ IntKind.i64.wrap ((a : Int) * n * n) = (a : Int) * n * n ∧ ((a : Int) * n * n).tmod D = ((a * n * n % D : Nat) : Int) := by
  have h1 : a * n ≤ 55440 * 16 := Nat.mul_le_mul (by omega) hn
  have h2 : a * n * n ≤ 55440 * 16 * 16 := Nat.mul_le_mul h1 hn
  have h3 : 2 * a * n ≤ 110880 * 16 := Nat.mul_le_mul (by omega) hn
  have e1 : 2 * (a : Int) * n = ((2 * a * n : Nat) : Int) := by simp
  have e2 : (a : Int) * n = ((a * n : Nat) : Int) := by simp
  have e3 : (a : Int) * n * n = ((a * n * n : Nat) : Int) := by simp
  refine ⟨wr64 _ ⟨by omega, by omega⟩, ?_, ?_, ?_, ?_, ?_⟩
  · rw [e1]; exact wr64 _ ⟨by omega, by omega⟩
  · rw [e1, Int.tmod_eq_emod_of_nonneg (by omega), Int.natCast_emod]
  · rw [e2]; exact wr64 _ ⟨by omega, by omega⟩
  · rw [e3]; exact wr64 _ ⟨by omega, by omega⟩
  · rw [e3, Int.tmod_eq_emod_of_nonneg (by omega), Int.natCast_emod]
set_option maxHeartbeats 8000000 in
theorem spec_Km_any (w : World) (A : Option Addr) (n c : Nat) (os : List Int) (D0 : Int) (h : Sl w w.heap.size A n c os) (hn : n ≤ 1048576) :
    Calls Try.prog 13 #[.slice A n c, .int .i64 D0] w (Re2 w (kmV os D0) (kmC os D0)) := by
  obtain rfl := h.len
  have HO0 := l10Orders_any w w.heap.size A os.length c os h hn
  cases hok : okG os with
  | false =>
    have HO := hide HO0
    rw [hok] at HO
    have HV := hide (show kmV os D0 = 0 by unfold kmV; rw [hok]; rfl)
    have HC := hide (show kmC os D0 = 2 by unfold kmC; rw [hok]; rfl)
    clear HO0 hok
    go_enter Try.func13, Try.ntmps13
    go_wp2_with fail
    refine HO.out.mono ?_
    rintro e w1 ⟨rfl, m1, rfl⟩
    go_wp2_with fail
    refine bodyPost_ret (v := .tuple #[.int .i64 0, .int .i64 2]) (by simp [results, Try.results13, go_sem]) rfl ?_
    exact ⟨by rw [HV.out, HC.out], below_drewN (Below.refl _ _) _⟩
  | true =>
    have hG := okG_iff.1 hok
    rw [hok] at HO0
    have HO := hide HO0
    clear HO0
    cases hod : ordB D0 with
    | false =>
      have HV := hide (show kmV os D0 = 0 by unfold kmV; rw [hok, hod]; rfl)
      have HC := hide (show kmC os D0 = 2 by unfold kmC; rw [hok, hod]; rfl)
      have HD := hide (fun W => l01Divisor_v false D0 W hod)
      clear hod hok
      go_enter Try.func13, Try.ntmps13
      go_wp2_with fail
      refine HO.out.mono ?_
      rintro e w1 ⟨rfl, m1, rfl⟩
      go_wp2_with fail
      refine (HD.out _).mono ?_
      rintro e w2 ⟨rfl, m2, rfl⟩
      go_wp2_with fail
      refine bodyPost_ret (v := .tuple #[.int .i64 0, .int .i64 2]) (by simp [results, Try.results13, go_sem]) rfl ?_
      exact ⟨by rw [HV.out, HC.out], below_drewN (Below.refl _ _) _⟩
    | true =>
      have HD := hide (fun W => l01Divisor_v true D0 W hod)
      have hdd := ordB_iff.1 hod
      have HV0 : kmV os D0 = kmR D0.toNat os 1 := by unfold kmV; rw [hok, hod]; rfl
      have HC := hide (show kmC os D0 = 0 by unfold kmC; rw [hok, hod]; rfl)
      obtain ⟨D, rfl⟩ : ∃ D : Nat, D0 = (D : Int) := ⟨D0.toNat, by omega⟩
      have hD1 : 1 ≤ D := by omega
      have hD2 : D ≤ 55440 := by
        have h9 : 55440 % D = 0 := Int.ofNat.inj (show Int.ofNat (55440 % D) = Int.ofNat 0 from hdd.2)
        exact Nat.le_of_dvd (by omega) (Nat.dvd_of_mod_eq_zero h9)
      have l4 := hG.l4
      obtain ⟨R, hR⟩ : ∃ R, kmV os (D : Int) = R := ⟨_, rfl⟩
      have HR := hide (show kmR D (os.drop 0) 1 = R by rw [List.drop_zero, ← hR, HV0, Int.toNat_natCast])
      rw [hR]
      have HM16 := hide hG.m16
      have HM2 := hide hG.m2
      clear hod hok hdd HV0 hR hG
      go_enter Try.func13, Try.ntmps13
      go_wp2_with fail
      refine HO.out.mono ?_
      rintro e w1 ⟨rfl, m1, rfl⟩
      go_wp2_with fail
      refine (HD.out _).mono ?_
      rintro e w2 ⟨rfl, m2, rfl⟩
      go_wp2_with fail
      go_loopw [6, 7] (fun o i wr => ∃ (k : Nat) (v : Int), k ≤ os.length ∧ i = .int .i64 k ∧ o = .int .i64 v ∧ Hid (kmR D (os.drop k) v = R) ∧ ∃ m, w.drewN m = wr) (fun _ i _ => os.length - (intOf i).toNat)
      case atStart => exact ⟨0, 1, by omega, rfl, rfl, HR, _, rfl⟩
      case round =>
        obtain ⟨k, v, hk, rfl, rfl, HS, m, rfl⟩ := hrel
        by_cases hlk : k < os.length
        · have hm16 := HM16.out _ (gi_mem hlk)
          have hm2 := HM2.out _ (gi_mem hlk)
          have HS2 := HS.out
          rw [drop_gi hlk] at HS2
          obtain ⟨b, off, rfl, hb, hc⟩ := h.at_ (by omega)
          have c0 := hc k hlk
          obtain ⟨m9, hm9⟩ : ∃ m9 : Nat, gi os k = (m9 : Int) := ⟨(gi os k).toNat, by omega⟩
          rw [hm9] at hm16 hm2 HS2 c0
          unfold kmR at HS2
          rw [Int.toNat_natCast] at HS2
          have HS3 := hide HS2
          have hcap := h.cap
          have HCC := hide hc
          clear HS2 hm9 HS hc HR

          go_wp2
          go_quiet (fail)
          go_wp2_with fail
          go_loopw [8, 10] (fun ct a wr => ∃ a' : Nat, a' ≤ D ∧ ct = .int .i64 (kmN D m9 a' : Nat) ∧ a = .int .i64 a' ∧ ∃ m, w.drewN m = wr) (fun _ a _ => D - (intOf a).toNat)
          case atStart => exact ⟨0, by omega, rfl, rfl, _, (World.drewN_drewN _ _ _).symm⟩
          case round =>
            obtain ⟨a, hla0, rfl, rfl, m3, rfl⟩ := hrel
            by_cases hla : a < D
            · clear hcap c0 hb
              have t0 : ¬ D = 0 := by omega
              have hm16' : m9 ≤ 16 := by omega
              obtain ⟨t1, t2, t3, t4, t5, t6⟩ := kmT_eqs hD1 hm16' hla hD2
              have hkle := kmN_le D m9 a
              have t7 : IntKind.i64.wrap ((kmN D m9 a : Int) + 1) = (kmN D m9 a : Int) + 1 := wr64 _ ⟨by omega, by omega⟩
              have hstep : kmN D m9 (a + 1) = if kmB D m9 a = true then kmN D m9 a + 1 else kmN D m9 a := rfl
              obtain ⟨r1, hr1⟩ : ∃ r, 2 * a * m9 % D = r := ⟨_, rfl⟩
              obtain ⟨r2, hr2⟩ : ∃ r, a * m9 * m9 % D = r := ⟨_, rfl⟩
              obtain ⟨q, hq⟩ : ∃ q, kmN D m9 a = q := ⟨_, rfl⟩
              rw [hr1] at t3
              rw [hr2] at t6
              rw [hq] at t7
              have hst : kmN D m9 (a + 1) = if (r1 == 0 && r2 == 0) = true then q + 1 else q := by rw [hstep]; unfold kmB; rw [hr1, hr2, hq]
              have HQ := hide hst
              have HQ0 := hide hq
              rw [hq]
              clear hstep hst hr1 hr2 hq hkle
              by_cases c1 : r1 = 0
              · by_cases c2 : r2 = 0
                · have b1 : ((r1 : Int) == 0) = true := by simp [c1]
                  have b2 : ((r2 : Int) == 0) = true := by simp [c2]
                  have HE := hide (show kmN D m9 (a + 1) = q + 1 by rw [HQ.out]; simp [c1, c2])
                  clear c1 c2
                  go_wp2_with fail
                  go_roundw
                  case rel => exact ⟨a + 1, by omega, by rw [HE.out]; go_num, by go_num, _, rfl⟩
                  case measure => simp [intOf] <;> omega
                · have b1 : ((r1 : Int) == 0) = true := by simp [c1]
                  have b2 : ((r2 : Int) == 0) = false := by simp; omega
                  have HE := hide (show kmN D m9 (a + 1) = q by rw [HQ.out]; simp [c1, c2])
                  clear c1 c2
                  go_wp2_with fail
                  go_roundw
                  case rel => exact ⟨a + 1, by omega, by rw [HE.out], by go_num, _, rfl⟩
                  case measure => simp [intOf] <;> omega
              · have b1 : ((r1 : Int) == 0) = false := by simp; omega
                have HE := hide (show kmN D m9 (a + 1) = q by rw [HQ.out]; simp [c1])
                clear c1
                go_wp2_with fail
                go_roundw
                case rel => exact ⟨a + 1, by omega, by rw [HE.out], by go_num, _, rfl⟩
                case measure => simp [intOf] <;> omega
            · obtain rfl : a = D := by omega
              obtain ⟨q, hq⟩ : ∃ q, kmN a m9 a = q := ⟨_, rfl⟩
              rw [hq] at HS3 ⊢
              have hql := kmN_le a m9 a
              rw [hq] at hql
              obtain ⟨u, hu⟩ : ∃ u, IntKind.i64.wrap (v * ((q : Nat) : Int)) = u := ⟨_, rfl⟩
              rw [hu] at HS3
              clear hq
              go_wp2_with fail
              go_loopw [6, 11] (fun o j wr => ∃ (j' : Nat) (z : Int), k + 1 ≤ j' ∧ j' ≤ os.length ∧ j = .int .i64 j' ∧ o = .int .i64 z ∧ Hid (kmR a (os.drop (k + 1)) (kmG a m9 z (os.drop j')) = R) ∧ ∃ m, w.drewN m = wr) (fun _ j _ => os.length - (intOf j).toNat)
              case atStart => exact ⟨k + 1, u, by omega, by omega, by go_num, rfl, HS3, _, rfl⟩
              case round =>
                clear hu
                obtain ⟨j, z, hj0, hj, rfl, rfl, HZ, m4, rfl⟩ := hrel
                by_cases hlj : j < os.length
                · have HZ2 := HZ.out
                  rw [drop_gi hlj] at HZ2
                  have hk16 := HM16.out _ (gi_mem hlj)
                  have hk2 := HM2.out _ (gi_mem hlj)
                  have cj := HCC.out j hlj
                  obtain ⟨o9, ho9⟩ : ∃ o9 : Nat, gi os j = (o9 : Int) := ⟨(gi os j).toNat, by omega⟩
                  rw [ho9] at hk16 hk2 HZ2 cj
                  unfold kmG at HZ2
                  rw [Int.toNat_natCast] at HZ2
                  have g1 := Nat.gcd_le_left o9 (show 0 < m9 by omega)
                  have HG1 := hide (fun W => l10Common_any W m9 o9 (by omega) (by omega))
                  obtain ⟨g, hg⟩ : ∃ g, Nat.gcd m9 o9 = g := ⟨_, rfl⟩
                  rw [hg] at HG1 g1 HZ2
                  have HG2 := hide (fun W => l10Common_any W g a (by omega) (by omega))
                  obtain ⟨g', hg'⟩ : ∃ g', Nat.gcd g a = g' := ⟨_, rfl⟩
                  rw [hg'] at HG2 HZ2
                  obtain ⟨z', hz'⟩ : ∃ z', IntKind.i64.wrap (z * ((g' : Nat) : Int)) = z' := ⟨_, rfl⟩
                  rw [hz'] at HZ2
                  have HZ3 := hide HZ2
                  clear HZ2 hg hg' ho9 HZ
                  go_wp2_with fail
                  refine (HG1.out _).mono ?_
                  rintro e w4 ⟨rfl, m5, rfl⟩
                  go_wp2_with fail
                  refine (HG2.out _).mono ?_
                  rintro e w5 ⟨rfl, m6, rfl⟩
                  go_wp2_with fail
                  go_roundw
                  case rel => exact ⟨j + 1, z', by omega, by omega, by go_num, rfl, HZ3, _, rfl⟩
                  case measure => simp [intOf] <;> omega
                · obtain rfl : j = os.length := by omega
                  have HZ2 := HZ.out
                  rw [List.drop_length] at HZ2
                  have HZ3 := hide (show kmR a (os.drop (k + 1)) z = R from HZ2)
                  clear HZ2 HZ
                  go_wp2_with fail
                  go_roundw
                  case rel => exact ⟨k + 1, z, by omega, by go_num, rfl, HZ3, _, rfl⟩
                  case measure => simp [intOf] <;> omega
        · obtain rfl : k = os.length := by omega
          have HS2 := HS.out
          rw [List.drop_length] at HS2
          have hv : v = R := HS2
          subst hv
          clear HS2
          go_wp2_with fail
          refine bodyPost_ret (v := .tuple #[.int .i64 v, .int .i64 0]) (by simp [results, Try.results13, go_sem]) rfl ?_
          exact ⟨by rw [HC.out], below_drewN (Below.refl _ _) _⟩
set_option maxHeartbeats 8000000 in
theorem impl_Km_any (w : World) (A : Option Addr) (n c : Nat) (os : List Int) (D0 : Int) (h : Sl w w.heap.size A n c os) (hn : n ≤ 1048576) :
    Calls Try.prog 12 #[.slice A n c, .int .i64 D0] w (Re2 w (kmV os D0) (kmC os D0)) := by
  obtain rfl := h.len
  have HO0 := isGroup_any w w.heap.size A os.length c os h (Nat.le_refl _) hn
  cases hok : okG os with
  | false =>
    have HO := hide HO0
    rw [hok] at HO
    have HV := hide (show kmV os D0 = 0 by unfold kmV; rw [hok]; rfl)
    have HC := hide (show kmC os D0 = 2 by unfold kmC; rw [hok]; rfl)
    clear HO0 hok
    go_enter Try.func12, Try.ntmps12
    go_wp2_with fail
    refine HO.out.mono ?_
    rintro e w1 ⟨rfl, hb1⟩
    go_wp2_with fail
    refine bodyPost_ret (v := .tuple #[.int .i64 0, .int .i64 2]) (by simp [results, Try.results12, go_sem]) rfl ?_
    exact ⟨by rw [HV.out, HC.out], hb1⟩
  | true =>
    have hG := okG_iff.1 hok
    rw [hok] at HO0
    have HO := hide HO0
    clear HO0
    cases hod : ordB D0 with
    | false =>
      have HV := hide (show kmV os D0 = 0 by unfold kmV; rw [hok, hod]; rfl)
      have HC := hide (show kmC os D0 = 2 by unfold kmC; rw [hok, hod]; rfl)
      have HD := hide (fun W => isOrder_v false D0 W hod)
      clear hod hok
      go_enter Try.func12, Try.ntmps12
      go_wp2_with fail
      refine HO.out.mono ?_
      rintro e w1 ⟨rfl, hb1⟩
      go_wp2_with fail
      refine (HD.out _).mono ?_
      rintro e w2 ⟨rfl, m2, rfl⟩
      go_wp2_with fail
      refine bodyPost_ret (v := .tuple #[.int .i64 0, .int .i64 2]) (by simp [results, Try.results12, go_sem]) rfl ?_
      exact ⟨by rw [HV.out, HC.out], below_drewN hb1 _⟩
    | true =>
      have HD := hide (fun W => isOrder_v true D0 W hod)
      have hdd := ordB_iff.1 hod
      have HV0 : kmV os D0 = kmR D0.toNat os 1 := by unfold kmV; rw [hok, hod]; rfl
      have HC := hide (show kmC os D0 = 0 by unfold kmC; rw [hok, hod]; rfl)
      obtain ⟨D, rfl⟩ : ∃ D : Nat, D0 = (D : Int) := ⟨D0.toNat, by omega⟩
      have hD1 : 1 ≤ D := by omega
      have hD2 : D ≤ 55440 := by
        have h9 : 55440 % D = 0 := Int.ofNat.inj (show Int.ofNat (55440 % D) = Int.ofNat 0 from hdd.2)
        exact Nat.le_of_dvd (by omega) (Nat.dvd_of_mod_eq_zero h9)
      have l4 := hG.l4
      obtain ⟨R, hR⟩ : ∃ R, kmV os (D : Int) = R := ⟨_, rfl⟩
      have HR := hide (show kmR D (os.drop 0) 1 = R by rw [List.drop_zero, ← hR, HV0, Int.toNat_natCast])
      rw [hR]
      have HM16 := hide hG.m16
      have HM2 := hide hG.m2
      clear hod hok hdd HV0 hR hG
      go_enter Try.func12, Try.ntmps12
      go_wp2_with fail
      refine HO.out.mono ?_
      rintro e w1 ⟨rfl, hb1⟩
      go_wp2_with fail
      refine (HD.out _).mono ?_
      rintro e w2 ⟨rfl, m2, rfl⟩
      go_wp2_with fail
      go_loopw [6, 23] (fun o i wr => ∃ (k : Nat) (v : Int), k ≤ os.length ∧ i = .int .i64 k ∧ o = .int .i64 v ∧ Hid (kmR D (os.drop k) v = R) ∧ ∃ m, w1.drewN m = wr) (fun _ i _ => os.length - (intOf i).toNat)
      case atStart => exact ⟨0, 1, by omega, rfl, rfl, HR, _, rfl⟩
      case round =>
        obtain ⟨k, v, hk, rfl, rfl, HS, m, rfl⟩ := hrel
        by_cases hlk : k < os.length
        · have hm16 := HM16.out _ (gi_mem hlk)
          have hm2 := HM2.out _ (gi_mem hlk)
          have HS2 := HS.out
          rw [drop_gi hlk] at HS2
          obtain ⟨b, off, rfl, hb, hc⟩ := h.at_ (by omega)
          have c0 : (w1.drewN m).cell? ⟨b, off + k, none⟩ = some (.int .i64 (gi os k)) := (hb1.cell (p := ⟨b, off + k, none⟩) hb).trans (hc k hlk)
          obtain ⟨m9, hm9⟩ : ∃ m9 : Nat, gi os k = (m9 : Int) := ⟨(gi os k).toNat, by omega⟩
          rw [hm9] at hm16 hm2 HS2 c0
          unfold kmR at HS2
          rw [Int.toNat_natCast] at HS2
          have HS3 := hide HS2
          have hcap := h.cap
          have HCC := hide (fun j hj => (hb1.cell (p := ⟨b, off + j, none⟩) hb).trans (hc j hj))
          clear HS2 hm9 HS hc HR
          go_wp2_with fail
          go_loopw [9, 29] (fun ct a wr => ∃ a' : Nat, a' ≤ D ∧ ct = .int .i64 (kmN D m9 a' : Nat) ∧ a = .int .i64 a' ∧ ∃ m, w1.drewN m = wr) (fun _ a _ => D - (intOf a).toNat)
          case atStart => exact ⟨0, by omega, rfl, rfl, _, rfl⟩
          case round =>
            obtain ⟨a, hla0, rfl, rfl, m3, rfl⟩ := hrel
            by_cases hla : a < D
            · clear hcap c0 hb
              have t0 : ¬ D = 0 := by omega
              have hm16' : m9 ≤ 16 := by omega
              obtain ⟨t1, t2, t3, t4, t5, t6⟩ := kmT_eqs hD1 hm16' hla hD2
              have hkle := kmN_le D m9 a
              have t7 : IntKind.i64.wrap ((kmN D m9 a : Int) + 1) = (kmN D m9 a : Int) + 1 := wr64 _ ⟨by omega, by omega⟩
              have hstep : kmN D m9 (a + 1) = if kmB D m9 a = true then kmN D m9 a + 1 else kmN D m9 a := rfl
              obtain ⟨r1, hr1⟩ : ∃ r, 2 * a * m9 % D = r := ⟨_, rfl⟩
              obtain ⟨r2, hr2⟩ : ∃ r, a * m9 * m9 % D = r := ⟨_, rfl⟩
              obtain ⟨q, hq⟩ : ∃ q, kmN D m9 a = q := ⟨_, rfl⟩
              rw [hr1] at t3
              rw [hr2] at t6
              rw [hq] at t7
              have hst : kmN D m9 (a + 1) = if (r1 == 0 && r2 == 0) = true then q + 1 else q := by rw [hstep]; unfold kmB; rw [hr1, hr2, hq]
              have HQ := hide hst
              have HQ0 := hide hq
              rw [hq]
              clear hstep hst hr1 hr2 hq hkle
              by_cases c1 : r1 = 0
              · by_cases c2 : r2 = 0
                · have b1 : ((r1 : Int) == 0) = true := by simp [c1]
                  have b2 : ((r2 : Int) == 0) = true := by simp [c2]
                  have HE := hide (show kmN D m9 (a + 1) = q + 1 by rw [HQ.out]; simp [c1, c2])
                  clear c1 c2
                  go_wp2_with fail
                  go_roundw
                  case rel => exact ⟨a + 1, by omega, by rw [HE.out]; go_num, by go_num, _, rfl⟩
                  case measure => simp [intOf] <;> omega
                · have b1 : ((r1 : Int) == 0) = true := by simp [c1]
                  have b2 : ((r2 : Int) == 0) = false := by simp; omega
                  have HE := hide (show kmN D m9 (a + 1) = q by rw [HQ.out]; simp [c1, c2])
                  clear c1 c2
                  go_wp2_with fail
                  go_roundw
                  case rel => exact ⟨a + 1, by omega, by rw [HE.out], by go_num, _, rfl⟩
                  case measure => simp [intOf] <;> omega
              · have b1 : ((r1 : Int) == 0) = false := by simp; omega
                have HE := hide (show kmN D m9 (a + 1) = q by rw [HQ.out]; simp [c1])
                clear c1
                go_wp2_with fail
                go_roundw
                case rel => exact ⟨a + 1, by omega, by rw [HE.out], by go_num, _, rfl⟩
                case measure => simp [intOf] <;> omega
            · obtain rfl : a = D := by omega
              obtain ⟨q, hq⟩ : ∃ q, kmN a m9 a = q := ⟨_, rfl⟩
              rw [hq] at HS3 ⊢
              have hql := kmN_le a m9 a
              rw [hq] at hql
              obtain ⟨u, hu⟩ : ∃ u, IntKind.i64.wrap (v * ((q : Nat) : Int)) = u := ⟨_, rfl⟩
              rw [hu] at HS3
              clear hq
              by_cases hc0 : c - (k + 1) = 0
              · have hkl : k + 1 = os.length := by omega
                have hc1 : (c : Int) - ((k : Int) + 1) = 0 := by omega
                have i1 : IntKind.i64.wrap ((k : Int) + 1) = ((k + 1 : Nat) : Int) := by rw [wr64 _ ⟨by omega, by omega⟩]; omega
                have HZ2 := HS3.out
                rw [hkl, List.drop_length] at HZ2
                have HZ3 := hide (show kmR a (os.drop (k + 1)) u = R by rw [hkl, List.drop_length]; exact HZ2)
                have l3 : os.length - (k + 1) = 0 := by omega
                clear HZ2
                go_wp2_with fail
                go_loopw [6, 60] (fun o j wr => j = .int .i64 0 ∧ o = .int .i64 u ∧ ∃ m, w1.drewN m = wr) (fun _ j _ => os.length - (intOf j).toNat)
                case atStart => exact ⟨rfl, rfl, _, rfl⟩
                case round =>
                  clear hu
                  obtain ⟨rfl, rfl, m4, rfl⟩ := hrel
                  have l1 : ¬ (0 : Int) < (os.length : Int) - ((k : Int) + 1) := by omega
                  go_wp2_with fail
                  go_roundw
                  case rel => exact ⟨k + 1, u, by omega, by go_num, rfl, HZ3, _, rfl⟩
                  case measure => simp [intOf] <;> omega
              · have hc1 : ¬ (c : Int) - ((k : Int) + 1) = 0 := by omega
                have i1 : IntKind.i64.wrap ((k : Int) + 1) = ((k + 1 : Nat) : Int) := by rw [wr64 _ ⟨by omega, by omega⟩]; omega
                go_wp2_with fail
                go_loopw [6, 60] (fun o j wr => ∃ (j' : Nat) (z : Int), j' ≤ os.length - (k + 1) ∧ j = .int .i64 j' ∧ o = .int .i64 z ∧ Hid (kmR a (os.drop (k + 1)) (kmG a m9 z (os.drop (k + 1 + j'))) = R) ∧ ∃ m, w1.drewN m = wr) (fun _ j _ => os.length - (intOf j).toNat)
                case atStart => exact ⟨0, u, by omega, rfl, rfl, HS3, _, rfl⟩
                case round =>
                  clear hu
                  obtain ⟨j, z, hj, rfl, rfl, HZ, m4, rfl⟩ := hrel
                  by_cases hlj : j < os.length - (k + 1)
                  · have HZ2 := HZ.out
                    rw [drop_gi (show k + 1 + j < os.length by omega)] at HZ2
                    have hk16 := HM16.out _ (gi_mem (show k + 1 + j < os.length by omega))
                    have hk2 := HM2.out _ (gi_mem (show k + 1 + j < os.length by omega))
                    have cj : (w1.drewN m4).cell? ⟨b, off + (k + 1) + j, none⟩ = some (.int .i64 (gi os (k + 1 + j))) := by
                      rw [Nat.add_assoc]; exact HCC.out _ (by omega)
                    obtain ⟨o9, ho9⟩ : ∃ o9 : Nat, gi os (k + 1 + j) = (o9 : Int) := ⟨(gi os (k + 1 + j)).toNat, by omega⟩
                    rw [ho9] at hk16 hk2 HZ2 cj
                    unfold kmG at HZ2
                    rw [Int.toNat_natCast] at HZ2
                    have g1 := Nat.gcd_le_left o9 (show 0 < m9 by omega)
                    have HG1 := hide (fun W => gcd_any W m9 o9 (by omega) (by omega))
                    obtain ⟨g, hg⟩ : ∃ g, Nat.gcd m9 o9 = g := ⟨_, rfl⟩
                    rw [hg] at HG1 g1 HZ2
                    have HG2 := hide (fun W => gcd_any W g a (by omega) (by omega))
                    obtain ⟨g', hg'⟩ : ∃ g', Nat.gcd g a = g' := ⟨_, rfl⟩
                    rw [hg'] at HG2 HZ2
                    obtain ⟨z', hz'⟩ : ∃ z', IntKind.i64.wrap (z * ((g' : Nat) : Int)) = z' := ⟨_, rfl⟩
                    rw [hz'] at HZ2
                    have HZ3 := hide (show kmR a (os.drop (k + 1)) (kmG a m9 z' (os.drop (k + 1 + (j + 1)))) = R from HZ2)
                    have l1 : (j : Int) < (os.length : Int) - ((k : Int) + 1) := by omega
                    have l2 : (j : Int) < ((os.length - (k + 1) : Nat) : Int) := by omega
                    clear HZ2 hg hg' ho9 HZ
                    go_wp2_with fail
                    refine (HG1.out _).mono ?_
                    rintro e w4 ⟨rfl, m5, rfl⟩
                    go_wp2_with fail
                    refine (HG2.out _).mono ?_
                    rintro e w5 ⟨rfl, m6, rfl⟩
                    go_wp2_with fail
                    go_roundw
                    case rel => exact ⟨j + 1, z', by omega, by go_num, rfl, HZ3, _, rfl⟩
                    case measure => simp [intOf] <;> omega
                  · have hje : k + 1 + j = os.length := by omega
                    have HZ2 := HZ.out
                    rw [hje, List.drop_length] at HZ2
                    have HZ3 := hide (show kmR a (os.drop (k + 1)) z = R from HZ2)
                    have l1 : ¬ (j : Int) < (os.length : Int) - ((k : Int) + 1) := by omega
                    have l2 : ¬ (j : Int) < ((os.length - (k + 1) : Nat) : Int) := by omega
                    clear HZ2 HZ hje
                    go_wp2_with fail
                    go_roundw
                    case rel => exact ⟨k + 1, z, by omega, by go_num, rfl, HZ3, _, rfl⟩
                    case measure => simp [intOf] <;> omega
        · obtain rfl : k = os.length := by omega
          have HS2 := HS.out
          rw [List.drop_length] at HS2
          have hv : v = R := HS2
          subst hv
          clear HS2
          go_wp2_with fail
          refine bodyPost_ret (v := .tuple #[.int .i64 v, .int .i64 0]) (by simp [results, Try.results12, go_sem]) rfl ?_
          exact ⟨by rw [HC.out], below_drewN hb1 _⟩
end Go.Proofs.Ytnoemhmmaicakaa
