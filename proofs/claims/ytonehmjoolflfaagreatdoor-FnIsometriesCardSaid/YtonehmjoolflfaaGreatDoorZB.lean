
/- A walk over the draws modulo 6, as l10Small takes them behind the last byte of its code, ends from every state. -/
import Derived.Test.YtonehmjoolflfaaGreatDoorZA
set_option linter.unusedSimpArgs false
set_option linter.unusedVariables false
namespace Go.Proofs.YtonehmjoolflfaaGreatDoor.Zl
def D1_2 : Dat := { i := 1, j := 2, B := [[-172193836015477, 208529244220783, -1288488301181, -7184245, -7934609, 1887619], [152247995943598, 25718273241750, -211312382800290, -4765010, 9073302, 8162910], [117304160761998, 38706231599862, -157298905682114, 13973646, -13671690, -23433410], [-519313083990945, -7988638155341, -189253451258505, 1703007, 1015219, -12327561], [44633271264987, -127045131912833, -253935666095021, -28875045, 702847, -19686317], [31439159481876, 560493279546756, -4174704518092, -1124844, 47418756, 3693620]], U := [[-384677944, 784074282, -685980874, 176272462, -358207591, 75831361], [-4568994786, -701846847, -1392508796, 1163220225, 570425303, 1974119181], [1856678516, 4801079480, -2480231881, -53127999, -2407530467, -1286253171], [-931, 395, 806, 504, -1199, 8], [-1634, -251, -498, 416, 204, 706], [664, 1717, -887, -19, -861, -460]], C := [[-142, 209, 311, -642, 112, 38], [1114, 67, 396, -253, -123, 295], [-164, -1496, -347, -445, 87, 167], [-7809794048, 3313500160, 6761218048, 4227858432, -10057940992, 67108864], [-13706985472, -2105540608, -4177526784, 3489660928, 1711276032, 5922357248], [5570035712, 14403239936, -7440695296, -159383552, -7222591488, -3858759680]], d := 432345564227567616, K := [152203238659393850441728, 1055624, 1054524, 175937, 176388, 176172], bound := 696872362130554 }
def D1_4 : Dat := { i := 1, j := 4, B := [[114933334119389, -329492696489767, 15152637204397, 9278429, 14590169, -7415891], [46024840637369, 87514255013509, -93028990913207, -28906567, 1390213, 718153], [100708395852792, 144053193366168, 425459458077560, 2696184, -9741672, -2264200], [310680756477485, -32573028802327, 181316358121213, 2154029, 3170537, 18753277], [142610080503382, -156938135595234, 96739845066678, -13593002, -30599394, 1691574], [819428217987320, 162968239788952, -79989464350600, -2481928, 709528, 6570104]], U := [[-1683126254, -63783624, -1998989227, 4544720729, -478771689, -1154441161], [2309663145, 2614449483, 631941910, 1367342998, -3559566161, -447392334], [-3154116498, -740993614, -3226817581, 6646573850, 139810105, -1663740681], [-347, -1863, -225, -174, -190, 280], [826, 935, 226, 489, -1273, -160], [-1128, -265, -1154, 2377, 50, -595]], C := [[247, -3, 93, -72, 92, 493], [-773, -31, 322, -318, -499, 278], [330, 278, 889, 334, -85, -283], [-2910846976, -15627976704, -1887436800, -1459617792, -1593835520, 2348810240], [6928990208, 7843348480, 1895825408, 4102029312, -10678697984, -1342177280], [-9462349824, -2222981120, -9680453632, 19939721216, 419430400, -4991221760]], d := 432345564227567616, K := [152724647393554447990784, 1055224, 1055065, 175967, 175989, 175525], bound := 695327271456136 }
def D1_6 : Dat := { i := 1, j := 6, B := [[-34428443337596, -251925591048396, 206313044025956, 14507140, 10665780, -5004700], [-159618163573442, 111480153359846, 15307280465486, 1015102, -17775130, 17022542], [-292744966921833, 256924938752139, 293466520376927, 3973527, -4894581, -5024161], [-21955842980452, 163122847129708, 97255226883772, 29836700, -10772372, -12566852], [-238319149994208, -394484156749664, -39273204021728, -4673760, -546656, -23067104], [467618854080988, 106274668365740, 509675168549116, -5238308, -2406484, -10532612]], U := [[1264659534, 90580617, 91065489, -908548978, -1230023328, -488493003], [2469046745, -5592405533, 2281701566, -2144687393, -3089804100, -1974119123], [3156913004, 3579139528, -995448008, -2052412850, -2670373547, -626349260], [966, 67, -450, 1165, -516, -396], [883, -2000, 816, -767, -1105, -706], [1129, 1280, -356, -734, -955, -224]], C := [[-147, -77, -666, 205, -171, 393], [-629, -599, 570, 157, -460, -121], [580, 344, 424, -278, -1, 412], [8103395328, 562036736, -3774873600, 9772728320, -4328521728, -3321888768], [7407140864, -16777216000, 6845104128, -6434062336, -9269411840, -5922357248], [9470738432, 10737418240, -2986344448, -6157238272, -8011120640, -1879048192]], d := 432345564227567616, K := [152389417431722246537216, 1057921, 1057027, 175969, 175722, 176254], bound := 698708350157354 }
def D1_8 : Dat := { i := 1, j := 8, B := [[57621275026944, 30975290355200, -57672823740928, -6216192, -13783552, -2890240], [187243408834806, 186882618029374, 28656007609782, 14598390, 1045822, -14189130], [108233195557131, -66846867786769, -107923919777429, 19697931, 3208175, 18436459], [225228075157468, 12369552623020, -176007757811876, -9844772, 46810540, 1978204], [-31026843374087, -318978627265595, 806697927492121, 372217, 3873733, -9911783], [286663296832007, 422882476090427, 451693130497511, -372217, -3873733, 9911783]], U := [[-1548995895, -3499935802, 2215584616, 140252227, -550345631, 1591173352], [-5186956384, 162179808, -942320512, 1624593664, -148198923, 181], [-889192574, -4362076190, 2927624157, -148198776, -651515117, 1968526774], [-1746, 1209, 855, -620, -33, -278], [-1855, 58, -337, 581, -53, 0], [-318, -1560, 1047, -53, -233, 704]], C := [[2394, 378, 777, 616, 372, 43], [-1312, 160, -640, -256, -545, 543], [-378, -90, -105, -104, 313, 290], [-14646509568, 10141827072, 7172259840, -5200936960, -276824064, -2332033024], [-15560867840, 486539264, -2826960896, 4873781248, -444596224, 0], [-2667577344, -13086228480, 8782872576, -444596224, -1954545664, 5905580032]], d := 432345564227567616, K := [152055268424431241789440, 1056137, 1060427, 175804, 176241, 175930], bound := 698358832741342 }
def D1_10 : Dat := { i := 1, j := 10, B := [[100863018267512, -206209978313704, -275736905642184, 6288248, -8498152, -5238984], [97976777752486, 139208467089966, -90039687160618, -16203866, -12907986, 7232726], [-241205360924359, 50508821513733, -374847555263743, 2419001, 6112773, 10461953], [343099167473664, 226619654406144, -500913445797888, 0, 0, 0], [-20255068426551, 28089083048021, 305990683415825, -2658615, -3067819, 33379601], [272129098034895, -332172751115421, 7627864159559, -29839665, 19557219, 2241863]], U := [[-374914675, -918596125, 577507841, 533306220, 962855180, 380848206], [-3962219513, -4910131814, 1384120305, 1982507838, -123032973, 1954545560], [1087722729, -556444377, 1493172051, 905969603, 4121602779, 285212656], [626, -1812, -383, 659, 658, -701], [-1417, -1756, 495, 709, -44, 699], [389, -199, 534, 324, 1474, 102]], C := [[188, -339, -728, 701, 322, 136], [-1003, 206, -45, 442, -167, -312], [-325, -139, -519, -183, 145, -48], [5251268608, -15200157696, -3212836864, 5528092672, 5519704064, -5880414208], [-11886657536, -14730395648, 4152360960, 5947523072, -369098752, 5863636992], [3263168512, -1669332992, 4479516672, 2717908992, 12364808192, 855638016]], d := 432345564227567616, K := [152243500814681074827264, 1055728, 1059893, 175932, 175784, 175955], bound := 697395500616107 }
def D2_5 : Dat := { i := 2, j := 5, B := [[-638214961390429, 30769145493339, -30820691037673, -1074013, -215205, -5721577], [168019121565306, 23141249253130, 54631982933138, 945786, -34537718, -1071982], [-360766424190, -341089135885486, -179976309965446, 10828674, -13106350, -393862], [-141012366483306, 192861198714502, 320215586221630, -221034, -12745082, 4501054], [-33758416237251, 421181663790469, 1236947882057, 26709309, -9124475, -2699191], [42468637161986, 344954590078418, -270222136376838, 539138, -3267118, 26018298]], U := [[-1669073867, -3526030299, 3188317437, 4424450478, -1250578326, 2591265784], [-1110092397, -4048901334, -419430694, 16777077, 276824179, -391468323], [-2049616694, -3883925665, 4580180038, 6199181723, -1825920364, 3735726653], [-643, -1325, 1741, 964, 1257, -206], [-397, -1448, -150, 6, 99, -140], [-733, -1389, 1638, 2217, -653, 1336]], C := [[-583, 169, -200, -260, 51, -74], [185, 382, -882, -417, 345, 151], [-418, -483, 210, 1233, -68, -329], [-5393874944, -11114905600, 14604566528, 8086618112, 10544480256, -1728053248], [-3330277376, -12146704384, -1258291200, 50331648, 830472192, -1174405120], [-6148849664, -11651776512, 13740539904, 18597543936, -5477761024, 11207180288]], d := 432345564227567616, K := [152189295494554808483840, 1058429, 1054814, 175584, 176249, 175586], bound := 694582326100484 }
def D2_7 : Dat := { i := 2, j := 7, B := [[-161576678080696, 104728495177864, -102099962528152, -8405176, 12632200, 32360], [84937276170619, -267439015979021, 196675147055143, 2924923, 7608307, 4636711], [-530033319377152, 84782659985152, 70042346152704, 4687616, 5562112, 19489536], [-151474878872019, -178636274268171, -277592328593375, 27723309, 5507061, -2318303], [6597082448208, -7988635909680, 239349905111696, 12681552, 3260880, -32359792], [987498880696320, 298105090080768, -49890340110336, 0, 0, 0]], U := [[199743393, 2039979762, 2379153641, 245974703, -1755281745, 1183670180], [7602875088, 4253024008, 1003837000, 1166016456, 1138054600, 1588243263], [-1568669849, 1602224289, 2818572491, 36350465, -2530563256, 1140850731], [-1086, -87, 1176, 1057, 619, 619], [2719, 1521, 359, 417, 407, 568], [-561, 573, 1008, 13, -905, 408]], C := [[-57, 249, -189, 25, -80, 310], [112, -744, 728, -168, 344, 445], [-459, 483, 609, -509, 472, 129], [-9110028288, -729808896, 9865003008, 8866758656, 5192548352, 5192548352], [22808625152, 12759072768, 3011510272, 3498049536, 3414163456, 4764729344], [-4706009088, 4806672384, 8455716864, 109051904, -7591690240, 3422552064]], d := 432345564227567616, K := [153131214377059233038336, 1055429, 1055385, 175912, 175468, 175961], bound := 696969865376837 }
def D2_9 : Dat := { i := 2, j := 9, B := [[-87256550536855, 103336915273105, -172245355762155, 5048681, 2131345, 12676629], [133332946006565, 79267906823341, -92719757109087, -18730459, -9591635, -3123039], [-75247828908968, -183738697733096, -367477406322056, -1883048, 3189784, -4476296], [-426181015447951, 149774111246809, -41231686793859, -600463, 11700697, -752259], [-25460541126027, 367580450592125, -130807537131343, 25004661, -30468739, -13164367], [404018982505456, 79577190583664, -77360980689104, -1094672, 36523376, -29753552]], U := [[4793175612, -421211001, -1427194258, -1122034422, -1433735240, -365550745], [2304071263, -1473598606, -685069891, 1062557141, -1512745558, 1881844482], [6347379823, -212511495, -1890233245, -1920991201, -1674925439, -1042983629], [432, -1886, 114, -607, 561, 132], [824, -527, -245, 380, -541, 673], [2270, -76, -676, -687, -599, -373]], C := [[498, 139, -228, -784, -21, 261], [797, 598, -713, 383, 254, 262], [-691, -277, -727, 93, -125, -103], [3623878656, -15820914688, 956301312, -5091885056, 4706009088, 1107296256], [6912212992, -4420796416, -2055208960, 3187671040, -4538236928, 5645533184], [19042140160, -637534208, -5670699008, -5762973696, -5024776192, -3128950784]], d := 432345564227567616, K := [152323160476627966623744, 1055586, 1054994, 175829, 176669, 176065], bound := 697965508828986 }
theorem okD1_2 : okDat D1_2 = true := by decide +kernel
theorem okD1_4 : okDat D1_4 = true := by decide +kernel
theorem okD1_6 : okDat D1_6 = true := by decide +kernel
theorem okD1_8 : okDat D1_8 = true := by decide +kernel
theorem okD1_10 : okDat D1_10 = true := by decide +kernel
theorem okD2_5 : okDat D2_5 = true := by decide +kernel
theorem okD2_7 : okDat D2_7 = true := by decide +kernel
theorem okD2_9 : okDat D2_9 = true := by decide +kernel

/-- How many draws a leaf takes. -/
def lf (r : Nat → Nat) (p : Nat) : Nat := if r p = 0 then 3 else if r p = 1 then 5 + 2 * (r (p + 2) % 3) else 4 + 2 * (r (p + 1) % 3)
theorem lf_le (r : Nat → Nat) (p : Nat) : lf r p ≤ 9 := by
  unfold lf
  have h1 := Nat.mod_lt (r (p + 1)) (show 0 < 3 by decide)
  have h2 := Nat.mod_lt (r (p + 2)) (show 0 < 3 by decide)
  by_cases a : r p = 0
  · rw [if_pos a]; omega
  · rw [if_neg a]
    by_cases b : r p = 1
    · rw [if_pos b]; omega
    · rw [if_neg b]; omega
/-- The call whose first draw is p ends ahead of draw q. -/
inductive Ends (r : Nat → Nat) : Nat → Nat → Prop
  | leaf (p : Nat) : r p ≠ 2 → Ends r p (p + lf r p)
  | two (p q s : Nat) : r p = 2 → Ends r (p + 1) q → Ends r q s → Ends r p s
/-- So many calls, one behind the other. -/
def Run (r : Nat → Nat) : Nat → Nat → Prop
  | 0, _ => True
  | c + 1, p => ∃ q, Ends r p q ∧ Run r c q
theorem Run.two {r : Nat → Nat} {c p : Nat} (h : r p = 2) (hr : Run r (c + 2) (p + 1)) : Run r (c + 1) p := by
  obtain ⟨q, h1, s, h2, h3⟩ := hr
  exact ⟨s, .two p q s h h1 h2, h3⟩
theorem Run.leaf {r : Nat → Nat} {c p : Nat} (h : r p ≠ 2) (hr : Run r c (p + lf r p)) : Run r (c + 1) p := ⟨_, .leaf p h, hr⟩

def sumN (f : Nat → Nat) : Nat → Nat
  | 0 => 0
  | n + 1 => sumN f n + f n
theorem sumN_mono (f : Nat → Nat) {m n : Nat} (h : m ≤ n) : sumN f m ≤ sumN f n := by
  induction n with
  | zero => rw [Nat.le_zero.mp h]; exact Nat.le_refl _
  | succ n ih =>
    by_cases e : m = n + 1
    · rw [e]; exact Nat.le_refl _
    · have := ih (by omega); simp only [sumN]; omega
theorem sumN_le {f g : Nat → Nat} (h : ∀ i, f i ≤ g i) (n : Nat) : sumN f n ≤ sumN g n := by
  induction n with
  | zero => exact Nat.le_refl _
  | succ n ih => have := h n; simp only [sumN]; omega
theorem sumN_far (f : Nat → Nat) {c : Nat} (h : ∀ i, f i ≤ c) (n k : Nat) : sumN f (n + k) ≤ sumN f n + c * k := by
  induction k with
  | zero => simp
  | succ k ih => have := h (n + k); rw [← Nat.add_assoc, Nat.mul_succ]; simp only [sumN]; omega

/-- What a draw 2 pays. -/
def wt (r : Nat → Nat) (q : Nat) : Nat :=
  if r q = 2 then (if r (q + 1) = 2 then 20 else if r (q + 1 + lf r (q + 1)) = 2 then lf r (q + 1) + 1 else 0) else 0
theorem wt_le (r : Nat → Nat) (q : Nat) : wt r q ≤ 20 := by
  unfold wt
  have := lf_le r (q + 1)
  by_cases a : r q = 2
  · rw [if_pos a]
    by_cases b : r (q + 1) = 2
    · rw [if_pos b]; omega
    · rw [if_neg b]
      by_cases c : r (q + 1 + lf r (q + 1)) = 2
      · rw [if_pos c]; omega
      · rw [if_neg c]; omega
  · rw [if_neg a]; omega

theorem lf_ge (r : Nat → Nat) (p : Nat) : 3 ≤ lf r p := by
  unfold lf
  by_cases a : r p = 0
  · rw [if_pos a]; omega
  · rw [if_neg a]
    by_cases b : r p = 1
    · rw [if_pos b]; omega
    · rw [if_neg b]; omega
/-- With no more to pay than it has, no walk goes on for ever. -/
theorem run_all {r : Nat → Nat} {N : Nat} (hN : ∀ p, N ≤ p → p ≤ N + 20 → sumN (wt r) p + 20 < p) :
    ∀ (m p c : Nat), N + 20 - p ≤ m → p ≤ N + 10 →
      ((r p = 2 → p + 1 + 19 * c ≤ sumN (wt r) p + 20 → Run r (c + 1) (p + 1)) ∧ (p + 19 * c ≤ sumN (wt r) p + 19 → Run r c p)) := by
  intro m
  induction m with
  | zero => intro p c h1 h2; omega
  | succ m ih =>
    intro p c h1 h2
    have s1 : sumN (wt r) (p + 1) = sumN (wt r) p + wt r p := rfl
    have one : ∀ c, r p = 2 → p + 1 + 19 * c ≤ sumN (wt r) p + 20 → Run r (c + 1) (p + 1) := by
      intro c h0 hp
      -- behind a 2 at p
      by_cases e : N ≤ p
      · have := hN p e (by omega); omega
      by_cases a : r (p + 1) = 2
      · refine Run.two a ?_
        refine (ih (p + 1) (c + 1) (by omega) (by omega)).1 a ?_
        have hw : wt r p = 20 := by unfold wt; rw [if_pos h0, if_pos a]
        omega
      · refine Run.leaf a ?_
        have hl := lf_le r (p + 1)
        have hg := lf_ge r (p + 1)
        have mono := sumN_mono (wt r) (show p + 1 ≤ p + 1 + lf r (p + 1) by omega)
        by_cases b : r (p + 1 + lf r (p + 1)) = 2
        · have hw : wt r p = lf r (p + 1) + 1 := by unfold wt; rw [if_pos h0, if_neg a, if_pos b]
          cases c with
          | zero => trivial
          | succ c =>
            refine Run.two b ?_
            refine (ih (p + 1 + lf r (p + 1)) (c + 1) (by omega) (by omega)).1 b ?_
            omega
        · cases c with
          | zero => trivial
          | succ c =>
            by_cases e2 : N ≤ p + 1 + lf r (p + 1)
            · have := hN _ e2 (by omega); omega
            refine Run.leaf b ?_
            have hl2 := lf_le r (p + 1 + lf r (p + 1))
            have hg2 := lf_ge r (p + 1 + lf r (p + 1))
            have mono2 := sumN_mono (wt r) (show p + 1 + lf r (p + 1) ≤ p + 1 + lf r (p + 1) + lf r (p + 1 + lf r (p + 1)) by omega)
            refine (ih (p + 1 + lf r (p + 1) + lf r (p + 1 + lf r (p + 1))) c (by omega) (by omega)).2 ?_
            omega
    refine ⟨one c, ?_⟩
    · intro hp
      cases c with
      | zero => trivial
      | succ c =>
        by_cases e : N ≤ p
        · have := hN p e (by omega); omega
        by_cases a : r p = 2
        · refine Run.two a ?_
          exact one (c + 1) a (by omega)
        · refine Run.leaf a ?_
          have hl := lf_le r p
          have hg := lf_ge r p
          have mono := sumN_mono (wt r) (show p ≤ p + lf r p by omega)
          exact (ih (p + lf r p) c (by omega) (by omega)).2 (by omega)

/-- The eight kinds of patterns that pay, as sums over all middle draws. -/
def pat (r : Nat → Nat) (i j a b c : Nat) (n : Nat) : Bool := decide (r n = a ∧ r (n + i) = b ∧ r (n + j) = c)
def cs (c : Nat) (p : Nat → Bool) (q : Nat) : Nat := if p q then c else 0
theorem cs_sum (c : Nat) (p : Nat → Bool) (N : Nat) : sumN (cs c p) N = c * cnt p N := by
  induction N with
  | zero => rfl
  | succ N ih =>
    simp only [sumN, cnt, ih, cs]
    by_cases h : p N = true
    · rw [if_pos h, if_pos h, Nat.mul_add, Nat.mul_one]
    · rw [if_neg h, if_neg h]; rfl
theorem sumN_add (f g : Nat → Nat) (n : Nat) : sumN (fun i => f i + g i) n = sumN f n + sumN g n := by
  induction n with
  | zero => rfl
  | succ n ih => simp only [sumN, ih]; omega
theorem cs_ge {c : Nat} {p : Nat → Bool} {q : Nat} (h : p q = true) : cs c p q = c := if_pos h
theorem pat_of {r : Nat → Nat} {i j a b c n : Nat} (h1 : r n = a) (h2 : r (n + i) = b) (h3 : r (n + j) = c) : pat r i j a b c n = true := decide_eq_true ⟨h1, h2, h3⟩
def pays (r : Nat → Nat) (q : Nat) : Nat :=
  (cs 20 (pat r 1 2 2 2 0) q + cs 20 (pat r 1 2 2 2 1) q + cs 20 (pat r 1 2 2 2 2) q + cs 20 (pat r 1 2 2 2 3) q + cs 20 (pat r 1 2 2 2 4) q + cs 20 (pat r 1 2 2 2 5) q)
  + (cs 4 (pat r 1 4 2 0 2) q + cs 6 (pat r 1 6 2 1 2) q + cs 8 (pat r 1 8 2 1 2) q + cs 10 (pat r 1 10 2 1 2) q)
  + (cs 5 (pat r 2 5 2 0 2) q + cs 5 (pat r 2 5 2 3 2) q + cs 7 (pat r 2 7 2 1 2) q + cs 7 (pat r 2 7 2 4 2) q + cs 9 (pat r 2 9 2 2 2) q + cs 9 (pat r 2 9 2 5 2) q)
theorem wt_pays {r : Nat → Nat} (h6 : ∀ n, r n < 6) (q : Nat) : wt r q ≤ pays r q := by
  unfold wt
  by_cases a : r q = 2
  · rw [if_pos a]
    by_cases b : r (q + 1) = 2
    · rw [if_pos b]
      have h := h6 (q + 2)
      unfold pays
      have e : r (q + 2) = 0 ∨ r (q + 2) = 1 ∨ r (q + 2) = 2 ∨ r (q + 2) = 3 ∨ r (q + 2) = 4 ∨ r (q + 2) = 5 := by omega
      rcases e with e | e | e | e | e | e
      · have := cs_ge (c := 20) (pat_of a b e); omega
      · have := cs_ge (c := 20) (pat_of a b e); omega
      · have := cs_ge (c := 20) (pat_of a b e); omega
      · have := cs_ge (c := 20) (pat_of a b e); omega
      · have := cs_ge (c := 20) (pat_of a b e); omega
      · have := cs_ge (c := 20) (pat_of a b e); omega
    · rw [if_neg b]
      by_cases c : r (q + 1 + lf r (q + 1)) = 2
      · rw [if_pos c]
        unfold pays
        by_cases d0 : r (q + 1) = 0
        · have e : lf r (q + 1) = 3 := by unfold lf; rw [if_pos d0]
          rw [e] at c ⊢
          have := cs_ge (c := 4) (show pat r 1 4 2 0 2 q = true from pat_of a d0 c); omega
        · by_cases d1 : r (q + 1) = 1
          · have e : lf r (q + 1) = 5 + 2 * (r (q + 3) % 3) := by unfold lf; rw [if_neg d0, if_pos d1]
            have m := Nat.mod_lt (r (q + 3)) (show 0 < 3 by decide)
            have k : r (q + 3) % 3 = 0 ∨ r (q + 3) % 3 = 1 ∨ r (q + 3) % 3 = 2 := by omega
            rcases k with k | k | k
            · rw [k] at e; rw [e] at c ⊢; have := cs_ge (c := 6) (show pat r 1 6 2 1 2 q = true from pat_of a d1 c); omega
            · rw [k] at e; rw [e] at c ⊢; have := cs_ge (c := 8) (show pat r 1 8 2 1 2 q = true from pat_of a d1 c); omega
            · rw [k] at e; rw [e] at c ⊢; have := cs_ge (c := 10) (show pat r 1 10 2 1 2 q = true from pat_of a d1 c); omega
          · have e : lf r (q + 1) = 4 + 2 * (r (q + 2) % 3) := by unfold lf; rw [if_neg d0, if_neg d1]
            have h := h6 (q + 2)
            have k : r (q + 2) = 0 ∨ r (q + 2) = 1 ∨ r (q + 2) = 2 ∨ r (q + 2) = 3 ∨ r (q + 2) = 4 ∨ r (q + 2) = 5 := by omega
            rcases k with k | k | k | k | k | k
            · rw [k] at e; rw [e] at c ⊢; have := cs_ge (c := 5) (show pat r 2 5 2 0 2 q = true from pat_of a k c); omega
            · rw [k] at e; rw [e] at c ⊢; have := cs_ge (c := 7) (show pat r 2 7 2 1 2 q = true from pat_of a k c); omega
            · rw [k] at e; rw [e] at c ⊢; have := cs_ge (c := 9) (show pat r 2 9 2 2 2 q = true from pat_of a k c); omega
            · rw [k] at e; rw [e] at c ⊢; have := cs_ge (c := 5) (show pat r 2 5 2 3 2 q = true from pat_of a k c); omega
            · rw [k] at e; rw [e] at c ⊢; have := cs_ge (c := 7) (show pat r 2 7 2 4 2 q = true from pat_of a k c); omega
            · rw [k] at e; rw [e] at c ⊢; have := cs_ge (c := 9) (show pat r 2 9 2 5 2 q = true from pat_of a k c); omega
      · rw [if_neg c]; omega
  · rw [if_neg a]; omega

/-- The draws from a state on. -/
def rx (x n : Nat) : Nat := dr (it x n)
theorem rx_lt (x n : Nat) : rx x n < 6 := Nat.mod_lt _ (by decide)
theorem cnt_rx {D : Dat} (hD : okDat D = true) {x : Nat} (hx : x < ML) (a b c : Nat) : cnt (pat (rx x) D.i D.j a b c) ML ≤ D.bound := pat_le D hD x hx a b c

theorem pays_le {x : Nat} (hx : x < ML) : sumN (pays (rx x)) ML + 2000 < ML := by
  unfold pays
  simp only [sumN_add, cs_sum]
  have p0 := cnt_rx okD1_2 hx 2 2 0
  have p1 := cnt_rx okD1_2 hx 2 2 1
  have p2 := cnt_rx okD1_2 hx 2 2 2
  have p3 := cnt_rx okD1_2 hx 2 2 3
  have p4 := cnt_rx okD1_2 hx 2 2 4
  have p5 := cnt_rx okD1_2 hx 2 2 5
  have q0 := cnt_rx okD1_4 hx 2 0 2
  have q1 := cnt_rx okD1_6 hx 2 1 2
  have q2 := cnt_rx okD1_8 hx 2 1 2
  have q3 := cnt_rx okD1_10 hx 2 1 2
  have s0 := cnt_rx okD2_5 hx 2 0 2
  have s1 := cnt_rx okD2_5 hx 2 3 2
  have s2 := cnt_rx okD2_7 hx 2 1 2
  have s3 := cnt_rx okD2_7 hx 2 4 2
  have s4 := cnt_rx okD2_9 hx 2 2 2
  have s5 := cnt_rx okD2_9 hx 2 5 2
  simp only [D1_2, D1_4, D1_6, D1_8, D1_10, D2_5, D2_7, D2_9] at p0 p1 p2 p3 p4 p5 q0 q1 q2 q3 s0 s1 s2 s3 s4 s5
  have e : ML = 144115188075855872 := rfl
  omega

/-- From every state the walk ends. -/
theorem ends_all {x : Nat} (hx : x < ML) : ∃ q, Ends (rx x) 0 q := by
  have hN : ∀ p, ML ≤ p → p ≤ ML + 20 → sumN (wt (rx x)) p + 20 < p := by
    intro p h1 h2
    have h3 := sumN_far (wt (rx x)) (wt_le (rx x)) ML (p - ML)
    rw [show ML + (p - ML) = p by omega] at h3
    have h4 := sumN_le (wt_pays (rx_lt x)) ML
    have h5 := pays_le hx
    have : 20 * (p - ML) ≤ 400 := by omega
    omega
  by_cases a : rx x 0 = 2
  · obtain ⟨q, h, _⟩ := Run.two a ((run_all hN (ML + 20) 0 1 (by omega) (by omega)).1 a (by simp [sumN]))
    exact ⟨q, h⟩
  · exact ⟨_, .leaf 0 a⟩
end Go.Proofs.YtonehmjoolflfaaGreatDoor.Zl
